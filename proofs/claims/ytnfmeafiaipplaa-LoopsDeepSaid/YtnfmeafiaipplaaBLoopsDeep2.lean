-- Written by wip/bundle2.py: texts of this claim, one behind the other.
import Derived.Test.YtnfmeafiaipplaaBLoopsDeep1
import Derived.RowKit
import Derived.Test.YtnfmeafiaipplaaVLoopsDeepWords
import Derived.KernelRfl
import Derived.WalkKit
import Derived.ProofKit
import Derived.OpenShut
import Derived.ShutString
import Derived.ChangeOld
import Derived.Below
import Derived.SizedLaws
import Derived.Deep.Slices
import Derived.Laws.IdiomArrays
set_option linter.unusedVariables false
set_option linter.unusedSimpArgs false

namespace Go.Proofs.Ytnfmeafiaipplaa.S
open Go.Proofs.Ytnfmeafiaipplaa.Lib
open Go.RowKit Go.Proofs.YtnfmeafiaipplaaW.PrintWords Go.Proofs.YtnfmeafiaipplaaW.PrintLast Go.Proofs.YtnfmeafiaipplaaW.PrintMore
set_option linter.unusedVariables false

structure Box (w : World) (g : Nat) (v : Value) (xs : List S39) (x y z : Int) (W : World) : Prop where
 low : w.heap.size ≤ g
 below : Below w.heap.size w W
 blk : W.heap[g]? = some (.cells #[.int .i64 x, .int .i64 y, .int .i64 z] 39 (0, 0))
 row : Kd.R k39 39 W w.heap.size (fun k => k ≠ g) v xs
section
variable {w W W0 : World} {g : Nat} {v : Value} {xs : List S39} {x y z : Int}
theorem Box.put0 (h : Box w g v xs x y z W) (u : Int) : Box w g v xs u y z (W.setCell ⟨g, 0, none⟩ (.int .i64 u)) := ⟨h.low, below_set h.below h.low, blk_put h.blk 0 _ rfl, Kd.R_far (p := ⟨g, 0, none⟩) h.row (fun _ hk => hk) _⟩
theorem Box.put1 (h : Box w g v xs x y z W) (u : Int) : Box w g v xs x u z (W.setCell ⟨g, 1, none⟩ (.int .i64 u)) := ⟨h.low, below_set h.below h.low, blk_put h.blk 1 _ rfl, Kd.R_far (p := ⟨g, 1, none⟩) h.row (fun _ hk => hk) _⟩
theorem Box.put2 (h : Box w g v xs x y z W) (u : Int) : Box w g v xs x y u (W.setCell ⟨g, 2, none⟩ (.int .i64 u)) := ⟨h.low, below_set h.below h.low, blk_put h.blk 2 _ rfl, Kd.R_far (p := ⟨g, 2, none⟩) h.row (fun _ hk => hk) _⟩
theorem Box.drewN (h : Box w g v xs x y z W) (n : Nat) : Box w g v xs x y z (W.drewN n) := ⟨h.low, pw_below_drewN h.below n, h.blk, Kd.R_drewN h.row n⟩
theorem Box.drew (h : Box w g v xs x y z W) : Box w g v xs x y z W.drew := ⟨h.low, below_drew1 h.below, h.blk, Kd.R_drew h.row⟩
theorem Box.made {ok : Nat → Prop} (hB : Below w.heap.size w W0) (hR : Kd.R k39 39 W0 w.heap.size ok v xs) (hg : g = W0.heap.size) (hbox : W.heap[g]? = some (.cells #[.int .i64 0, .int .i64 0, .int .i64 0] 39 (0, 0))) (hb : Below W0.heap.size W0 W) : Box w g v xs 0 0 0 W :=
 ⟨by rw [hg]; exact hB.size, below_step hB hb, hbox, Kd.R_mono (Kd.R_below (Kd.R_elderB hR g (Nat.le_of_eq hg.symm)) hb) (fun _ hk => hk.2)⟩
theorem Box.cell0 (h : Box w g v xs x y z W) : W.cell? ⟨g, 0, none⟩ = some (.int .i64 x) := (blk_cell h.blk 0).trans rfl
theorem Box.cell1 (h : Box w g v xs x y z W) : W.cell? ⟨g, 1, none⟩ = some (.int .i64 y) := (blk_cell h.blk 1).trans rfl
theorem Box.cell2 (h : Box w g v xs x y z W) : W.cell? ⟨g, 2, none⟩ = some (.int .i64 z) := (blk_cell h.blk 2).trans rfl
theorem Box.fz (h : Box w g v xs x y z W) (i : Nat) : W.frozen? ⟨g, i, none⟩ = false := blk_frozen h.blk i
/-- What lay in memory ahead. -/
theorem Box.old (h : Box w g v xs x y z W) {a : Addr} {u : Value} (hc : w.cell? a = some u) : W.cell? a = some u := (h.below.cell (World.block_lt_of_cell? w _ hc)).trans hc
end
section
variable {P : Program} {ops : Array Oper} {rest : List Oper} {o : Oper} {a : Act} {Q : Exit → Act → World → Prop}
theorem put_event {w W W1 : World} {g : Nat} {vv : Value} {xs : List S39} (x y z : Int) (hgd : o.guard = none) {t : TypeId} {p : Tmp} {vo : Operand} (ho : o.op = .store t (.tmp p) vo) (hN : o.dst = none)
  (hrun : (execOp a.eval o).run P W = .ok .skip W1) (hb : Box w g vv xs x y z W1) (h : ∀ W', Box w g vv xs x y z W' → wpList P ops Q rest a W') : wpList P ops Q (o :: rest) a W :=
 store_event hgd ho hN hrun (fun w' e => h w' (e ▸ hb))
end
end Go.Proofs.Ytnfmeafiaipplaa.S

namespace Go.Proofs.Ytnfmeafiaipplaa.S
open Go.Proofs.Ytnfmeafiaipplaa.Lib
open Go.Maps (Keyed)
open Go.RowKit Go.Proofs.YtnfmeafiaipplaaW.PrintWords Go.Proofs.YtnfmeafiaipplaaW.PrintLast Go.Proofs.YtnfmeafiaipplaaW.PrintMore
attribute [local go_sem] max2_int min2_int max_two min_two max_three min_three max_four min_four
set_option linter.unusedVariables false
set_option linter.unusedSimpArgs false

def tickinglaw06_tame.l0 : Nat → List (S39) → Int → List (S39) → Int → Option ((List (S39)))
 | 0, _, _, _, _ => none
 | k + 1, x0, x5, x6, x7 => if x7 < x5 then (if x7 < (x0.length : Int) then (if 0 ≤ x7 then ((tickinglaw06_mod.f ((rd_T39 x0 x7).f0) 6).bind fun t266 => (if t266 ≥ 4 then ((tickinglaw06_mod.f ((rd_T39 x0 x7).f1) x5).bind fun t268 => ((tickinglaw06_mod.f ((rd_T39 x0 x7).f2) x5).bind fun t270 => (if x6.length < 5864062014805 then (tickinglaw06_tame.l0 k x0 x5 (x6 ++ [(⟨t266, t268, t270⟩ : S39)]) (wrap64 (x7 + 1))) else (none)))) else (if x6.length < 5864062014805 then (tickinglaw06_tame.l0 k x0 x5 (x6 ++ [(⟨t266, 0, 0⟩ : S39)]) (wrap64 (x7 + 1))) else (none)))) else (none)) else (if x6.length < 5864062014805 then (tickinglaw06_tame.l0 k x0 x5 (x6 ++ [(⟨0, 0, 0⟩ : S39)]) (wrap64 (x7 + 1))) else (none))) else (some x6)
def tickinglaw06_tame.f (k : Nat) (l0 : List (S39)) (a1 : Int) : Option ((List (S39))) := (tickinglaw06_mod.f (wrap64 ((l0.length : Int) - 1)) a1).bind fun t263 => (tickinglaw06_tame.l0 k l0 (wrap64 (1 + t263)) ([] : List (S39)) 0)
set_option maxHeartbeats 8000000 in
set_option maxRecDepth 100000 in
theorem tickinglaw06_tame.calls (k : Nat) (A0 : Option Addr) (c0 : Nat) (l0 : List (S39)) (a1 : Int) (r : List (S39)) (w : World) (hr0 : Kd.C k39 w A0 l0.length l0) (hc0 : l0.length ≤ c0) (h : tickinglaw06_tame.f k l0 a1 = some r) :
  Calls Try.prog 23 #[.slice A0 l0.length c0, .int .i64 a1] w fun e w' => ∃ v0_ : Value, e = .returned (v0_) ∧ Kd.R k39 39 w' w.heap.size (fun _ => True) v0_ r ∧ Below w.heap.size w w' := by
 have hu39 := Try.underlying39
 have HR0 := Aside0.mk hr0
 have HC0 := Aside0.mk hc0
 clear hr0 hc0
 have HB := Aside0.mk (Below.refl w.heap.size w)
 have H : ((tickinglaw06_mod.f (wrap64 ((l0.length : Int) - 1)) a1).bind fun t263 => (tickinglaw06_tame.l0 k l0 (wrap64 (1 + t263)) ([] : List (S39)) 0)) = some r := h
 clear h
 replace H := Option.bind_eq_some_iff.mp H
 obtain ⟨t263, A30, H⟩ := H
 replace H : (tickinglaw06_tame.l0 k l0 (wrap64 (1 + t263)) ([] : List (S39)) 0) = some r := H
 have A3 := Aside0.mk A30
 clear A30
 have H' := Aside0.mk H
 clear H
 go_enter Try.func23, Try.ntmps23
 go_wp2_with (first | ((with_reducible refine gate_callee (f := 24) rfl ?_); refine goesL_ (some 13) rfl rfl Try.func24 (by kernel_rfl) rfl #[.int .i64 (wrap64 ((l0.length : Int) - 1)), .int .i64 a1] rfl (by (try simp only [List.map_toArray, List.map_cons, List.map_nil]); first | done | rfl | (simp only [List.length_drop, List.length_take]; rfl)) ?_; (with_reducible refine (tickinglaw06_mod.calls (wrap64 ((l0.length : Int) - 1)) a1 t263 _ A3.out).mono ?_); rintro e w' ⟨rfl, ⟨nd, rfl⟩⟩; refine ⟨_, rfl, ?_⟩))
 go_loopg [6, 7] k (fun kq v6 v7 w' => ∃ (x6_1 : List (S39)) (x7_1 : Int), v7 = .int .i64 x7_1 ∧ Aside0 (tickinglaw06_tame.l0 kq l0 (wrap64 (1 + t263)) x6_1 x7_1 = some r) ∧ Aside0 (kq ≤ k) ∧ Aside0 (Kd.R k39 39 w' w.heap.size (fun _ => True) v6 x6_1) ∧ Aside0 (Below w.heap.size w w'))
 case atStart => exact ⟨(([] : List (S39))), (0), (by first | rfl | (simp; done) | (simp [*]; done)), H', ⟨Nat.le_refl _⟩, ⟨by first | exact Kd.R_nil _ _ _ _ _ | exact Kd.N_nil _ _ _ _ _ | exact Kd.V_nil _ _ _ _ _ | exact Kd.Q_nil _ _ _ _ _ | exact Kd.S_nil _ _ _ _ _⟩, ⟨by repeat (first | (with_reducible first | exact HB.out | apply below_alloc | apply pw_below_drewN | apply below_drew1) | exact HB.out)⟩⟩
 case round =>
  clear H'
  try clear c2
  try clear p2
  obtain ⟨x6_1, x7_1, rfl, HA, HK1, HO_6, HB⟩ := hrel
  cases gk with
  | zero => exact absurd HA.out (by simp [tickinglaw06_tame.l0])
  | succ k1 =>
   have H := HA.out
   clear HA
   simp only [tickinglaw06_tame.l0] at H
   by_cases c4 : x7_1 < (wrap64 (1 + t263))
   ·rw [if_pos c4] at H
    have c4b0 : decide (x7_1 < (wrap64 (1 + t263))) = true := decide_eq_true c4
    clear c4
    by_cases c5 : x7_1 < (l0.length : Int)
    ·rw [if_pos c5] at H
     have c5b0 : decide (x7_1 < (l0.length : Int)) = true := decide_eq_true c5
     clear c5
     by_cases c6 : 0 ≤ x7_1
     ·rw [if_pos c6] at H
      have c6b0 : decide (0 ≤ x7_1) = true := decide_eq_true c6
      clear c6
      replace H := Option.bind_eq_some_iff.mp H
      obtain ⟨t266, A70, H⟩ := H
      replace H : (if t266 ≥ 4 then ((tickinglaw06_mod.f ((rd_T39 l0 x7_1).f1) (wrap64 (1 + t263))).bind fun t268 => ((tickinglaw06_mod.f ((rd_T39 l0 x7_1).f2) (wrap64 (1 + t263))).bind fun t270 => (if x6_1.length < 5864062014805 then (tickinglaw06_tame.l0 k1 l0 (wrap64 (1 + t263)) (x6_1 ++ [(⟨t266, t268, t270⟩ : S39)]) (wrap64 (x7_1 + 1))) else (none)))) else (if x6_1.length < 5864062014805 then (tickinglaw06_tame.l0 k1 l0 (wrap64 (1 + t263)) (x6_1 ++ [(⟨t266, 0, 0⟩ : S39)]) (wrap64 (x7_1 + 1))) else (none))) = some r := H
      have A7 := Aside0.mk A70
      clear A70
      by_cases c8 : t266 ≥ 4
      ·rw [if_pos c8] at H
       have c8b0 : decide (4 ≤ t266) = true := decide_eq_true c8
       clear c8
       replace H := Option.bind_eq_some_iff.mp H
       obtain ⟨t268, A90, H⟩ := H
       replace H : ((tickinglaw06_mod.f ((rd_T39 l0 x7_1).f2) (wrap64 (1 + t263))).bind fun t270 => (if x6_1.length < 5864062014805 then (tickinglaw06_tame.l0 k1 l0 (wrap64 (1 + t263)) (x6_1 ++ [(⟨t266, t268, t270⟩ : S39)]) (wrap64 (x7_1 + 1))) else (none))) = some r := H
       have A9 := Aside0.mk A90
       clear A90
       replace H := Option.bind_eq_some_iff.mp H
       obtain ⟨t270, A100, H⟩ := H
       replace H : (if x6_1.length < 5864062014805 then (tickinglaw06_tame.l0 k1 l0 (wrap64 (1 + t263)) (x6_1 ++ [(⟨t266, t268, t270⟩ : S39)]) (wrap64 (x7_1 + 1))) else (none)) = some r := H
       have A10 := Aside0.mk A100
       clear A100
       by_cases c11 : x6_1.length < 5864062014805
       ·rw [if_pos c11] at H
        have LMc11 := Aside0.mk c11
        clear c11
        obtain ⟨y271, hy271⟩ : ∃ y_ : List (S39), y_ = (x6_1 ++ [(⟨t266, t268, t270⟩ : S39)]) := ⟨_, rfl⟩
        replace H : (tickinglaw06_tame.l0 k1 l0 (wrap64 (1 + t263)) y271 (wrap64 (x7_1 + 1))) = some r := by first | (rw [hy271]; with_reducible exact H) | (have H2_ := (Option.bind_some _ _).symm.trans H; rw [hy271]; with_reducible exact H2_) | (have H2_ := (Option.bind_some _ _).symm.trans H; with_reducible exact H2_) | with_reducible exact H | (rw [hy271]; exact H) | exact H
        have Ny271 := Aside0.mk hy271
        clear hy271
        have H' := Aside0.mk H
        clear H
        have p_ : 0 ≤ (x7_1 : Int) := of_decide_eq_true (by first | (with_reducible assumption) | assumption)
        have q_ : x7_1 < (l0.length : Int) := of_decide_eq_true (by first | (with_reducible assumption) | assumption)
        obtain ⟨ad_, e_, hx0, hx1, hx2⟩ := at_T39 HR0.out x7_1 p_ q_
        cases e_
        have HX0 := Aside0.mk hx0
        have HX1 := Aside0.mk hx1
        have HX2 := Aside0.mk hx2
        clear hx0 hx1 hx2
        replace p_ := eq_true p_
        replace q_ := eq_true q_
        go_wp2_with (first | ((with_reducible refine gate_dst (N := 8) rfl ?_); refine box_event ?hg (N := 8) ?hd (cs := #[.int .i64 0, .int .i64 0, .int .i64 0]) (t := 39) ?hr ?_; (case hd => rfl); (case hg => rfl); (case hr => first | (go_simp; done) | (go_simp; rfl)); intro gb hg wb hbox hb; have BX := Aside0.mk (Box.made (by repeat (first | exact HB.out | apply below_alloc | apply pw_below_drewN | apply below_drew1)) (by (with_reducible repeat (first | apply Kd.R_alloc | apply Kd.R_drewN | apply Kd.R_drew)); exact HO_6.out) hg hbox hb); clear hg hbox hb HB HO_6; have hc0 := BX.out.cell0; have hc1 := BX.out.cell1; have hc2 := BX.out.cell2; have hf0 := BX.out.fz 0; have hf1 := BX.out.fz 1; have hf2 := BX.out.fz 2; have hl0 := BX.out.old HX0.out; have hl1 := BX.out.old HX1.out; have hl2 := BX.out.old HX2.out) | ((with_reducible refine gate_store (t := 39) (p := 8) rfl ?_); refine put_event (w := w) (g := gb) (vv := u6) (xs := x6_1) (W1 := ?W1_8_0) (0)  (0)  (0) rfl rfl rfl ?hr ?hb ?_; (case hr => first | (go_simp; done) | (go_simp; rfl)); (case hb => exact (Box.put2 (Box.put1 (Box.put0 (by repeat (first | exact BX.out | apply Box.drewN | apply Box.drew)) 0) 0) 0)); intro wb hbx; clear BX; have BX := Aside0.mk hbx; clear hbx; clear hc0 hc1 hc2 hf0 hf1 hf2; clear hl0 hl1 hl2; have hc0 := BX.out.cell0; have hc1 := BX.out.cell1; have hc2 := BX.out.cell2; have hf0 := BX.out.fz 0; have hf1 := BX.out.fz 1; have hf2 := BX.out.fz 2; have hl0 := BX.out.old HX0.out; have hl1 := BX.out.old HX1.out; have hl2 := BX.out.old HX2.out) | ((with_reducible refine gate_dst (N := 30) rfl ?_); (with_reducible refine gate_callee (f := 24) rfl ?_); refine goesL_ (some 30) rfl rfl Try.func24 (by kernel_rfl) rfl #[.int .i64 ((rd_T39 l0 x7_1).f0), .int .i64 6] rfl (by (try simp only [List.map_toArray, List.map_cons, List.map_nil]); first | done | rfl | (simp only [List.length_drop, List.length_take]; rfl)) ?_; (with_reducible refine (tickinglaw06_mod.calls ((rd_T39 l0 x7_1).f0) 6 t266 _ A7.out).mono ?_); rintro e w' ⟨rfl, ⟨nd, rfl⟩⟩; refine ⟨_, rfl, ?_⟩) | ((with_reducible refine gate_store (t := 3) (p := 31) rfl ?_); refine put_event (w := w) (g := gb) (vv := u6) (xs := x6_1) (W1 := ?W1_31_0) t266  (0)  (0) rfl rfl rfl ?hr ?hb ?_; (case hr => first | (go_simp; done) | (go_simp; rfl)); (case hb => exact (Box.put0 (by repeat (first | exact BX.out | apply Box.drewN | apply Box.drew)) t266)); intro wb hbx; clear BX; have BX := Aside0.mk hbx; clear hbx; clear hc0 hc1 hc2 hf0 hf1 hf2; clear hl0 hl1 hl2; have hc0 := BX.out.cell0; have hc1 := BX.out.cell1; have hc2 := BX.out.cell2; have hf0 := BX.out.fz 0; have hf1 := BX.out.fz 1; have hf2 := BX.out.fz 2; have hl0 := BX.out.old HX0.out; have hl1 := BX.out.old HX1.out; have hl2 := BX.out.old HX2.out) | ((with_reducible refine gate_dst (N := 41) rfl ?_); (with_reducible refine gate_callee (f := 24) rfl ?_); refine goesL_ (some 41) rfl rfl Try.func24 (by kernel_rfl) rfl #[.int .i64 ((rd_T39 l0 x7_1).f1), .int .i64 (wrap64 (1 + t263))] rfl (by (try simp only [List.map_toArray, List.map_cons, List.map_nil]); first | done | rfl | (simp only [List.length_drop, List.length_take]; rfl)) ?_; (with_reducible refine (tickinglaw06_mod.calls ((rd_T39 l0 x7_1).f1) (wrap64 (1 + t263)) t268 _ A9.out).mono ?_); rintro e w' ⟨rfl, ⟨nd, rfl⟩⟩; refine ⟨_, rfl, ?_⟩) | ((with_reducible refine gate_store (t := 3) (p := 42) rfl ?_); refine put_event (w := w) (g := gb) (vv := u6) (xs := x6_1) (W1 := ?W1_42_0) t266  t268  (0) rfl rfl rfl ?hr ?hb ?_; (case hr => first | (go_simp; done) | (go_simp; rfl)); (case hb => exact (Box.put1 (by repeat (first | exact BX.out | apply Box.drewN | apply Box.drew)) t268)); intro wb hbx; clear BX; have BX := Aside0.mk hbx; clear hbx; clear hc0 hc1 hc2 hf0 hf1 hf2; clear hl0 hl1 hl2; have hc0 := BX.out.cell0; have hc1 := BX.out.cell1; have hc2 := BX.out.cell2; have hf0 := BX.out.fz 0; have hf1 := BX.out.fz 1; have hf2 := BX.out.fz 2; have hl0 := BX.out.old HX0.out; have hl1 := BX.out.old HX1.out; have hl2 := BX.out.old HX2.out) | ((with_reducible refine gate_dst (N := 49) rfl ?_); (with_reducible refine gate_callee (f := 24) rfl ?_); refine goesL_ (some 49) rfl rfl Try.func24 (by kernel_rfl) rfl #[.int .i64 ((rd_T39 l0 x7_1).f2), .int .i64 (wrap64 (1 + t263))] rfl (by (try simp only [List.map_toArray, List.map_cons, List.map_nil]); first | done | rfl | (simp only [List.length_drop, List.length_take]; rfl)) ?_; (with_reducible refine (tickinglaw06_mod.calls ((rd_T39 l0 x7_1).f2) (wrap64 (1 + t263)) t270 _ A10.out).mono ?_); rintro e w' ⟨rfl, ⟨nd, rfl⟩⟩; refine ⟨_, rfl, ?_⟩) | ((with_reducible refine gate_store (t := 3) (p := 50) rfl ?_); refine put_event (w := w) (g := gb) (vv := u6) (xs := x6_1) (W1 := ?W1_50_0) t266  t268  t270 rfl rfl rfl ?hr ?hb ?_; (case hr => first | (go_simp; done) | (go_simp; rfl)); (case hb => exact (Box.put2 (by repeat (first | exact BX.out | apply Box.drewN | apply Box.drew)) t270)); intro wb hbx; clear BX; have BX := Aside0.mk hbx; clear hbx; clear hc0 hc1 hc2 hf0 hf1 hf2; clear hl0 hl1 hl2; have hc0 := BX.out.cell0; have hc1 := BX.out.cell1; have hc2 := BX.out.cell2; have hf0 := BX.out.fz 0; have hf1 := BX.out.fz 1; have hf2 := BX.out.fz 2; have hl0 := BX.out.old HX0.out; have hl1 := BX.out.old HX1.out; have hl2 := BX.out.old HX2.out) | ((with_reducible refine gate_builtin (b := .append) (xs := #[.tmp 51, .tmp 53]) rfl ?_); at_builtin; refine Kd.R_append k39 (w0 := w) w.heap.size rfl (.tmp 51) (.tmp 53) 22 39 (.agg #[(.int .i64 0), (.int .i64 0), (.int .i64 0)]) 24 rfl Try.underlying22 info39 rfl (by decide) (by omega) u6 x6_1 (⟨t266, t268, t270⟩ : S39) [.int .i64 ((t266)), .int .i64 ((t268)), .int .i64 ((t270))] (fun k_ => k_ ≠ gb) (fun _ => False) rfl (by first | (go_simp; done) | (go_simp; rfl)) ?aP (fun _ hk => hk.elim) ?aF ?aO ?aB ?aS ?aL ?_; (case aP => exact k39_mkM _ _ _ (⟨t266, t268, t270⟩ : S39)); (case aB => repeat (first | exact BX.out.below | apply below_alloc | apply pw_below_drewN | apply below_drew1)); (case aF => exact (Kd.freshB (by repeat (first | exact BX.out.blk | refine blk_drewN ?_ _ | refine blk_drew ?_ | refine blk_alloc ?_ _)))); (case aO => repeat (first | exact BX.out.row | apply Kd.R_alloc | apply Kd.R_drewN | apply Kd.R_drew)); (case aS => exact (below_size (by repeat (first | exact BX.out.below | apply below_alloc | apply pw_below_drewN | apply below_drew1)))); (case aL => have := LMc11.out; omega); intro v13 w13 ho hb hg hat; rw [← Ny271.out] at ho; clear BX; have HO273 := Aside0.mk ho; have HB := Aside0.mk hb; clear ho hb hg hat))
        go_roundg k1
        case measure => have := HK1.out; omega
        case rel => exact ⟨(y271), (wrap64 (x7_1 + 1)), (by first | rfl | (simp; done) | (simp [*]; done)), H', ⟨by have := HK1.out; omega⟩, ⟨by (with_reducible repeat (first | apply Kd.R_alloc | apply Kd.R_drewN | apply Kd.R_drew)); exact Kd.R_mono HO273.out (fun _ hk => trivial)⟩, ⟨by repeat (first | (with_reducible first | exact HB.out | apply below_alloc | apply pw_below_drewN | apply below_drew1) | exact HB.out)⟩⟩
       ·rw [if_neg c11] at H
        exact absurd H (by simp)
      ·rw [if_neg c8] at H
       have c8b0 : decide (4 ≤ t266) = false := decide_eq_false c8
       clear c8
       by_cases c15 : x6_1.length < 5864062014805
       ·rw [if_pos c15] at H
        have LMc15 := Aside0.mk c15
        clear c15
        obtain ⟨y274, hy274⟩ : ∃ y_ : List (S39), y_ = (x6_1 ++ [(⟨t266, 0, 0⟩ : S39)]) := ⟨_, rfl⟩
        replace H : (tickinglaw06_tame.l0 k1 l0 (wrap64 (1 + t263)) y274 (wrap64 (x7_1 + 1))) = some r := by first | (rw [hy274]; with_reducible exact H) | (have H2_ := (Option.bind_some _ _).symm.trans H; rw [hy274]; with_reducible exact H2_) | (have H2_ := (Option.bind_some _ _).symm.trans H; with_reducible exact H2_) | with_reducible exact H | (rw [hy274]; exact H) | exact H
        have Ny274 := Aside0.mk hy274
        clear hy274
        have H' := Aside0.mk H
        clear H
        have p_ : 0 ≤ (x7_1 : Int) := of_decide_eq_true (by first | (with_reducible assumption) | assumption)
        have q_ : x7_1 < (l0.length : Int) := of_decide_eq_true (by first | (with_reducible assumption) | assumption)
        obtain ⟨ad_, e_, hx0, hx1, hx2⟩ := at_T39 HR0.out x7_1 p_ q_
        cases e_
        have HX0 := Aside0.mk hx0
        have HX1 := Aside0.mk hx1
        have HX2 := Aside0.mk hx2
        clear hx0 hx1 hx2
        replace p_ := eq_true p_
        replace q_ := eq_true q_
        go_wp2_with (first | ((with_reducible refine gate_dst (N := 8) rfl ?_); refine box_event ?hg (N := 8) ?hd (cs := #[.int .i64 0, .int .i64 0, .int .i64 0]) (t := 39) ?hr ?_; (case hd => rfl); (case hg => rfl); (case hr => first | (go_simp; done) | (go_simp; rfl)); intro gb hg wb hbox hb; have BX := Aside0.mk (Box.made (by repeat (first | exact HB.out | apply below_alloc | apply pw_below_drewN | apply below_drew1)) (by (with_reducible repeat (first | apply Kd.R_alloc | apply Kd.R_drewN | apply Kd.R_drew)); exact HO_6.out) hg hbox hb); clear hg hbox hb HB HO_6; have hc0 := BX.out.cell0; have hc1 := BX.out.cell1; have hc2 := BX.out.cell2; have hf0 := BX.out.fz 0; have hf1 := BX.out.fz 1; have hf2 := BX.out.fz 2; have hl0 := BX.out.old HX0.out; have hl1 := BX.out.old HX1.out; have hl2 := BX.out.old HX2.out) | ((with_reducible refine gate_store (t := 39) (p := 8) rfl ?_); refine put_event (w := w) (g := gb) (vv := u6) (xs := x6_1) (W1 := ?W1_8_1) (0)  (0)  (0) rfl rfl rfl ?hr ?hb ?_; (case hr => first | (go_simp; done) | (go_simp; rfl)); (case hb => exact (Box.put2 (Box.put1 (Box.put0 (by repeat (first | exact BX.out | apply Box.drewN | apply Box.drew)) 0) 0) 0)); intro wb hbx; clear BX; have BX := Aside0.mk hbx; clear hbx; clear hc0 hc1 hc2 hf0 hf1 hf2; clear hl0 hl1 hl2; have hc0 := BX.out.cell0; have hc1 := BX.out.cell1; have hc2 := BX.out.cell2; have hf0 := BX.out.fz 0; have hf1 := BX.out.fz 1; have hf2 := BX.out.fz 2; have hl0 := BX.out.old HX0.out; have hl1 := BX.out.old HX1.out; have hl2 := BX.out.old HX2.out) | ((with_reducible refine gate_dst (N := 30) rfl ?_); (with_reducible refine gate_callee (f := 24) rfl ?_); refine goesL_ (some 30) rfl rfl Try.func24 (by kernel_rfl) rfl #[.int .i64 ((rd_T39 l0 x7_1).f0), .int .i64 6] rfl (by (try simp only [List.map_toArray, List.map_cons, List.map_nil]); first | done | rfl | (simp only [List.length_drop, List.length_take]; rfl)) ?_; (with_reducible refine (tickinglaw06_mod.calls ((rd_T39 l0 x7_1).f0) 6 t266 _ A7.out).mono ?_); rintro e w' ⟨rfl, ⟨nd, rfl⟩⟩; refine ⟨_, rfl, ?_⟩) | ((with_reducible refine gate_store (t := 3) (p := 31) rfl ?_); refine put_event (w := w) (g := gb) (vv := u6) (xs := x6_1) (W1 := ?W1_31_1) t266  (0)  (0) rfl rfl rfl ?hr ?hb ?_; (case hr => first | (go_simp; done) | (go_simp; rfl)); (case hb => exact (Box.put0 (by repeat (first | exact BX.out | apply Box.drewN | apply Box.drew)) t266)); intro wb hbx; clear BX; have BX := Aside0.mk hbx; clear hbx; clear hc0 hc1 hc2 hf0 hf1 hf2; clear hl0 hl1 hl2; have hc0 := BX.out.cell0; have hc1 := BX.out.cell1; have hc2 := BX.out.cell2; have hf0 := BX.out.fz 0; have hf1 := BX.out.fz 1; have hf2 := BX.out.fz 2; have hl0 := BX.out.old HX0.out; have hl1 := BX.out.old HX1.out; have hl2 := BX.out.old HX2.out) | ((with_reducible refine gate_builtin (b := .append) (xs := #[.tmp 51, .tmp 53]) rfl ?_); at_builtin; refine Kd.R_append k39 (w0 := w) w.heap.size rfl (.tmp 51) (.tmp 53) 22 39 (.agg #[(.int .i64 0), (.int .i64 0), (.int .i64 0)]) 24 rfl Try.underlying22 info39 rfl (by decide) (by omega) u6 x6_1 (⟨t266, 0, 0⟩ : S39) [.int .i64 ((t266)), .int .i64 ((0)), .int .i64 ((0))] (fun k_ => k_ ≠ gb) (fun _ => False) rfl (by first | (go_simp; done) | (go_simp; rfl)) ?aP (fun _ hk => hk.elim) ?aF ?aO ?aB ?aS ?aL ?_; (case aP => exact k39_mkM _ _ _ (⟨t266, 0, 0⟩ : S39)); (case aB => repeat (first | exact BX.out.below | apply below_alloc | apply pw_below_drewN | apply below_drew1)); (case aF => exact (Kd.freshB (by repeat (first | exact BX.out.blk | refine blk_drewN ?_ _ | refine blk_drew ?_ | refine blk_alloc ?_ _)))); (case aO => repeat (first | exact BX.out.row | apply Kd.R_alloc | apply Kd.R_drewN | apply Kd.R_drew)); (case aS => exact (below_size (by repeat (first | exact BX.out.below | apply below_alloc | apply pw_below_drewN | apply below_drew1)))); (case aL => have := LMc15.out; omega); intro v13 w13 ho hb hg hat; rw [← Ny274.out] at ho; clear BX; have HO276 := Aside0.mk ho; have HB := Aside0.mk hb; clear ho hb hg hat))
        go_roundg k1
        case measure => have := HK1.out; omega
        case rel => exact ⟨(y274), (wrap64 (x7_1 + 1)), (by first | rfl | (simp; done) | (simp [*]; done)), H', ⟨by have := HK1.out; omega⟩, ⟨by (with_reducible repeat (first | apply Kd.R_alloc | apply Kd.R_drewN | apply Kd.R_drew)); exact Kd.R_mono HO276.out (fun _ hk => trivial)⟩, ⟨by repeat (first | (with_reducible first | exact HB.out | apply below_alloc | apply pw_below_drewN | apply below_drew1) | exact HB.out)⟩⟩
       ·rw [if_neg c15] at H
        exact absurd H (by simp)
     ·rw [if_neg c6] at H
      exact absurd H (by simp)
    ·rw [if_neg c5] at H
     have c5b0 : decide (x7_1 < (l0.length : Int)) = false := decide_eq_false c5
     clear c5
     by_cases c19 : x6_1.length < 5864062014805
     ·rw [if_pos c19] at H
      have LMc19 := Aside0.mk c19
      clear c19
      obtain ⟨y277, hy277⟩ : ∃ y_ : List (S39), y_ = (x6_1 ++ [(⟨0, 0, 0⟩ : S39)]) := ⟨_, rfl⟩
      replace H : (tickinglaw06_tame.l0 k1 l0 (wrap64 (1 + t263)) y277 (wrap64 (x7_1 + 1))) = some r := by first | (rw [hy277]; with_reducible exact H) | (have H2_ := (Option.bind_some _ _).symm.trans H; rw [hy277]; with_reducible exact H2_) | (have H2_ := (Option.bind_some _ _).symm.trans H; with_reducible exact H2_) | with_reducible exact H | (rw [hy277]; exact H) | exact H
      have Ny277 := Aside0.mk hy277
      clear hy277
      have H' := Aside0.mk H
      clear H
      go_wp2_with (first | ((with_reducible refine gate_dst (N := 8) rfl ?_); refine box_event ?hg (N := 8) ?hd (cs := #[.int .i64 0, .int .i64 0, .int .i64 0]) (t := 39) ?hr ?_; (case hd => rfl); (case hg => rfl); (case hr => first | (go_simp; done) | (go_simp; rfl)); intro gb hg wb hbox hb; have BX := Aside0.mk (Box.made (by repeat (first | exact HB.out | apply below_alloc | apply pw_below_drewN | apply below_drew1)) (by (with_reducible repeat (first | apply Kd.R_alloc | apply Kd.R_drewN | apply Kd.R_drew)); exact HO_6.out) hg hbox hb); clear hg hbox hb HB HO_6; have hc0 := BX.out.cell0; have hc1 := BX.out.cell1; have hc2 := BX.out.cell2; have hf0 := BX.out.fz 0; have hf1 := BX.out.fz 1; have hf2 := BX.out.fz 2) | ((with_reducible refine gate_store (t := 39) (p := 8) rfl ?_); refine put_event (w := w) (g := gb) (vv := u6) (xs := x6_1) (W1 := ?W1_8_2) (0)  (0)  (0) rfl rfl rfl ?hr ?hb ?_; (case hr => first | (go_simp; done) | (go_simp; rfl)); (case hb => exact (Box.put2 (Box.put1 (Box.put0 (by repeat (first | exact BX.out | apply Box.drewN | apply Box.drew)) 0) 0) 0)); intro wb hbx; clear BX; have BX := Aside0.mk hbx; clear hbx; clear hc0 hc1 hc2 hf0 hf1 hf2; have hc0 := BX.out.cell0; have hc1 := BX.out.cell1; have hc2 := BX.out.cell2; have hf0 := BX.out.fz 0; have hf1 := BX.out.fz 1; have hf2 := BX.out.fz 2) | ((with_reducible refine gate_builtin (b := .append) (xs := #[.tmp 51, .tmp 53]) rfl ?_); at_builtin; refine Kd.R_append k39 (w0 := w) w.heap.size rfl (.tmp 51) (.tmp 53) 22 39 (.agg #[(.int .i64 0), (.int .i64 0), (.int .i64 0)]) 24 rfl Try.underlying22 info39 rfl (by decide) (by omega) u6 x6_1 (⟨0, 0, 0⟩ : S39) [.int .i64 ((0)), .int .i64 ((0)), .int .i64 ((0))] (fun k_ => k_ ≠ gb) (fun _ => False) rfl (by first | (go_simp; done) | (go_simp; rfl)) ?aP (fun _ hk => hk.elim) ?aF ?aO ?aB ?aS ?aL ?_; (case aP => exact k39_mkM _ _ _ (⟨0, 0, 0⟩ : S39)); (case aB => repeat (first | exact BX.out.below | apply below_alloc | apply pw_below_drewN | apply below_drew1)); (case aF => exact (Kd.freshB (by repeat (first | exact BX.out.blk | refine blk_drewN ?_ _ | refine blk_drew ?_ | refine blk_alloc ?_ _)))); (case aO => repeat (first | exact BX.out.row | apply Kd.R_alloc | apply Kd.R_drewN | apply Kd.R_drew)); (case aS => exact (below_size (by repeat (first | exact BX.out.below | apply below_alloc | apply pw_below_drewN | apply below_drew1)))); (case aL => have := LMc19.out; omega); intro v13 w13 ho hb hg hat; rw [← Ny277.out] at ho; clear BX; have HO279 := Aside0.mk ho; have HB := Aside0.mk hb; clear ho hb hg hat))
      go_roundg k1
      case measure => have := HK1.out; omega
      case rel => exact ⟨(y277), (wrap64 (x7_1 + 1)), (by first | rfl | (simp; done) | (simp [*]; done)), H', ⟨by have := HK1.out; omega⟩, ⟨by (with_reducible repeat (first | apply Kd.R_alloc | apply Kd.R_drewN | apply Kd.R_drew)); exact Kd.R_mono HO279.out (fun _ hk => trivial)⟩, ⟨by repeat (first | (with_reducible first | exact HB.out | apply below_alloc | apply pw_below_drewN | apply below_drew1) | exact HB.out)⟩⟩
     ·rw [if_neg c19] at H
      exact absurd H (by simp)
   ·rw [if_neg c4] at H
    have c4b0 : decide (x7_1 < (wrap64 (1 + t263))) = false := decide_eq_false c4
    clear c4
    obtain rfl := Option.some.inj H
    go_wp2
    go_ret
    exact ⟨_, by first | rfl | (simp [errW_none, errW_some] <;> rfl) | (simp [*, errW_none, errW_some] <;> rfl), by (with_reducible repeat (first | apply Kd.R_alloc | apply Kd.R_drewN | apply Kd.R_drew)); exact HO_6.out, by repeat (first | (with_reducible first | exact HB.out | apply below_alloc | apply pw_below_drewN | apply below_drew1) | exact HB.out)⟩

def tickinglaw06_LoopsDeep.j0 : Nat → List (S39) → Int → Int → Int → Bool → Option (Bool)
 | 0, _, _, _, _, _ => none
 | k + 1, x5, x6, x8, x9, x71 => if x71 = true then (some false) else (if 0 ≤ x6 then (if x6 < (x5.length : Int) then (if ((rd_T39 x5 x6).f0) < 4 then (if x9 = 0 then (if x8 = 0 then ((tickinglaw06_awake.f k).bind fun t378 => (some t378)) else (some false)) else (some false)) else ((loops_Depth.f k x5 ((rd_T39 x5 x6).f1)).bind fun bt380 => ((loops_Depth.f k x5 ((rd_T39 x5 x6).f2)).bind fun bt383 => (if x9 = 0 then (if bt380.2 = 0 then (if bt383.2 = 0 then (if x8 = (wrap64 (1 + (mx bt380.1 bt383.1))) then (if x8 < (x5.length : Int) then ((tickinglaw06_awake.f k).bind fun t385 => (some t385)) else (some false)) else (some false)) else (some false)) else (some false)) else (if bt380.2 = 0 then (if bt383.2 = 0 then (some false) else ((tickinglaw06_awake.f k).bind fun t386 => (some t386))) else ((tickinglaw06_awake.f k).bind fun t387 => (some t387))))))) else (none)) else (none))
def tickinglaw06_LoopsDeep.f (k : Nat) (l0 : List (S39)) (a1_0 : Int) (a1_1 : Int) : Option (Bool) := (tickinglaw06_tame.f k l0 16).bind fun t366 => ((tickinglaw06_mod.f a1_0 (t366.length : Int)).bind fun t369 => ((tickinglaw06_mod.f a1_1 (t366.length : Int)).bind fun t370 => ((loops_Depth.f k t366 t369).bind fun bt371 => ((loops_Depth.f k t366 t370).bind fun bt373 => ((loops_Equal.f k t366 t369 t370).bind fun bt375 => (if bt371.2 = 0 then (if bt375.2 = 0 then (if bt375.1 = true then (if bt371.1 = bt373.1 then (tickinglaw06_LoopsDeep.j0 k t366 t369 bt371.1 bt371.2 (bt371.2 != bt373.2)) else (tickinglaw06_LoopsDeep.j0 k t366 t369 bt371.1 bt371.2 true)) else (tickinglaw06_LoopsDeep.j0 k t366 t369 bt371.1 bt371.2 false)) else (tickinglaw06_LoopsDeep.j0 k t366 t369 bt371.1 bt371.2 true)) else (if bt371.2 = 6 then (if bt375.2 = 0 then (if bt375.1 = true then (if bt371.1 = bt373.1 then (tickinglaw06_LoopsDeep.j0 k t366 t369 bt371.1 bt371.2 (bt371.2 != bt373.2)) else (tickinglaw06_LoopsDeep.j0 k t366 t369 bt371.1 bt371.2 true)) else (tickinglaw06_LoopsDeep.j0 k t366 t369 bt371.1 bt371.2 false)) else (tickinglaw06_LoopsDeep.j0 k t366 t369 bt371.1 bt371.2 true)) else (tickinglaw06_LoopsDeep.j0 k t366 t369 bt371.1 bt371.2 true))))))))
set_option maxHeartbeats 8000000 in
set_option maxRecDepth 100000 in
theorem tickinglaw06_LoopsDeep.calls (k : Nat) (A0 : Option Addr) (c0 : Nat) (l0 : List (S39)) (a1_0 : Int) (a1_1 : Int) (r : Bool) (w : World) (hr0 : Kd.C k39 w A0 l0.length l0) (hc0 : l0.length ≤ c0) (h : tickinglaw06_LoopsDeep.f k l0 a1_0 a1_1 = some r) :
  Calls Try.prog 6 #[.slice A0 l0.length c0, .agg #[.int .i64 a1_0, .int .i64 a1_1]] w fun e w' => e = .returned (.bool r) ∧ Below w.heap.size w w' := by
 have hu23 := Try.underlying23
 have HR0 := Aside0.mk hr0
 have HC0 := Aside0.mk hc0
 clear hr0 hc0
 have HB := Aside0.mk (Below.refl w.heap.size w)
 have H : ((tickinglaw06_tame.f k l0 16).bind fun t366 => ((tickinglaw06_mod.f a1_0 (t366.length : Int)).bind fun t369 => ((tickinglaw06_mod.f a1_1 (t366.length : Int)).bind fun t370 => ((loops_Depth.f k t366 t369).bind fun bt371 => ((loops_Depth.f k t366 t370).bind fun bt373 => ((loops_Equal.f k t366 t369 t370).bind fun bt375 => (if bt371.2 = 0 then (if bt375.2 = 0 then (if bt375.1 = true then (if bt371.1 = bt373.1 then (tickinglaw06_LoopsDeep.j0 k t366 t369 bt371.1 bt371.2 (bt371.2 != bt373.2)) else (tickinglaw06_LoopsDeep.j0 k t366 t369 bt371.1 bt371.2 true)) else (tickinglaw06_LoopsDeep.j0 k t366 t369 bt371.1 bt371.2 false)) else (tickinglaw06_LoopsDeep.j0 k t366 t369 bt371.1 bt371.2 true)) else (if bt371.2 = 6 then (if bt375.2 = 0 then (if bt375.1 = true then (if bt371.1 = bt373.1 then (tickinglaw06_LoopsDeep.j0 k t366 t369 bt371.1 bt371.2 (bt371.2 != bt373.2)) else (tickinglaw06_LoopsDeep.j0 k t366 t369 bt371.1 bt371.2 true)) else (tickinglaw06_LoopsDeep.j0 k t366 t369 bt371.1 bt371.2 false)) else (tickinglaw06_LoopsDeep.j0 k t366 t369 bt371.1 bt371.2 true)) else (tickinglaw06_LoopsDeep.j0 k t366 t369 bt371.1 bt371.2 true))))))))) = some r := h
 clear h
 replace H := Option.bind_eq_some_iff.mp H
 obtain ⟨t366, A30, H⟩ := H
 replace H : ((tickinglaw06_mod.f a1_0 (t366.length : Int)).bind fun t369 => ((tickinglaw06_mod.f a1_1 (t366.length : Int)).bind fun t370 => ((loops_Depth.f k t366 t369).bind fun bt371 => ((loops_Depth.f k t366 t370).bind fun bt373 => ((loops_Equal.f k t366 t369 t370).bind fun bt375 => (if bt371.2 = 0 then (if bt375.2 = 0 then (if bt375.1 = true then (if bt371.1 = bt373.1 then (tickinglaw06_LoopsDeep.j0 k t366 t369 bt371.1 bt371.2 (bt371.2 != bt373.2)) else (tickinglaw06_LoopsDeep.j0 k t366 t369 bt371.1 bt371.2 true)) else (tickinglaw06_LoopsDeep.j0 k t366 t369 bt371.1 bt371.2 false)) else (tickinglaw06_LoopsDeep.j0 k t366 t369 bt371.1 bt371.2 true)) else (if bt371.2 = 6 then (if bt375.2 = 0 then (if bt375.1 = true then (if bt371.1 = bt373.1 then (tickinglaw06_LoopsDeep.j0 k t366 t369 bt371.1 bt371.2 (bt371.2 != bt373.2)) else (tickinglaw06_LoopsDeep.j0 k t366 t369 bt371.1 bt371.2 true)) else (tickinglaw06_LoopsDeep.j0 k t366 t369 bt371.1 bt371.2 false)) else (tickinglaw06_LoopsDeep.j0 k t366 t369 bt371.1 bt371.2 true)) else (tickinglaw06_LoopsDeep.j0 k t366 t369 bt371.1 bt371.2 true)))))))) = some r := H
 have A3 := Aside0.mk A30
 clear A30
 replace H := Option.bind_eq_some_iff.mp H
 obtain ⟨t369, A40, H⟩ := H
 replace H : ((tickinglaw06_mod.f a1_1 (t366.length : Int)).bind fun t370 => ((loops_Depth.f k t366 t369).bind fun bt371 => ((loops_Depth.f k t366 t370).bind fun bt373 => ((loops_Equal.f k t366 t369 t370).bind fun bt375 => (if bt371.2 = 0 then (if bt375.2 = 0 then (if bt375.1 = true then (if bt371.1 = bt373.1 then (tickinglaw06_LoopsDeep.j0 k t366 t369 bt371.1 bt371.2 (bt371.2 != bt373.2)) else (tickinglaw06_LoopsDeep.j0 k t366 t369 bt371.1 bt371.2 true)) else (tickinglaw06_LoopsDeep.j0 k t366 t369 bt371.1 bt371.2 false)) else (tickinglaw06_LoopsDeep.j0 k t366 t369 bt371.1 bt371.2 true)) else (if bt371.2 = 6 then (if bt375.2 = 0 then (if bt375.1 = true then (if bt371.1 = bt373.1 then (tickinglaw06_LoopsDeep.j0 k t366 t369 bt371.1 bt371.2 (bt371.2 != bt373.2)) else (tickinglaw06_LoopsDeep.j0 k t366 t369 bt371.1 bt371.2 true)) else (tickinglaw06_LoopsDeep.j0 k t366 t369 bt371.1 bt371.2 false)) else (tickinglaw06_LoopsDeep.j0 k t366 t369 bt371.1 bt371.2 true)) else (tickinglaw06_LoopsDeep.j0 k t366 t369 bt371.1 bt371.2 true))))))) = some r := H
 have A4 := Aside0.mk A40
 clear A40
 replace H := Option.bind_eq_some_iff.mp H
 obtain ⟨t370, A50, H⟩ := H
 replace H : ((loops_Depth.f k t366 t369).bind fun bt371 => ((loops_Depth.f k t366 t370).bind fun bt373 => ((loops_Equal.f k t366 t369 t370).bind fun bt375 => (if bt371.2 = 0 then (if bt375.2 = 0 then (if bt375.1 = true then (if bt371.1 = bt373.1 then (tickinglaw06_LoopsDeep.j0 k t366 t369 bt371.1 bt371.2 (bt371.2 != bt373.2)) else (tickinglaw06_LoopsDeep.j0 k t366 t369 bt371.1 bt371.2 true)) else (tickinglaw06_LoopsDeep.j0 k t366 t369 bt371.1 bt371.2 false)) else (tickinglaw06_LoopsDeep.j0 k t366 t369 bt371.1 bt371.2 true)) else (if bt371.2 = 6 then (if bt375.2 = 0 then (if bt375.1 = true then (if bt371.1 = bt373.1 then (tickinglaw06_LoopsDeep.j0 k t366 t369 bt371.1 bt371.2 (bt371.2 != bt373.2)) else (tickinglaw06_LoopsDeep.j0 k t366 t369 bt371.1 bt371.2 true)) else (tickinglaw06_LoopsDeep.j0 k t366 t369 bt371.1 bt371.2 false)) else (tickinglaw06_LoopsDeep.j0 k t366 t369 bt371.1 bt371.2 true)) else (tickinglaw06_LoopsDeep.j0 k t366 t369 bt371.1 bt371.2 true)))))) = some r := H
 have A5 := Aside0.mk A50
 clear A50
 replace H := Option.bind_eq_some_iff.mp H
 obtain ⟨⟨t371, t372⟩, A60, H⟩ := H
 replace H : ((loops_Depth.f k t366 t370).bind fun bt373 => ((loops_Equal.f k t366 t369 t370).bind fun bt375 => (if t372 = 0 then (if bt375.2 = 0 then (if bt375.1 = true then (if t371 = bt373.1 then (tickinglaw06_LoopsDeep.j0 k t366 t369 t371 t372 (t372 != bt373.2)) else (tickinglaw06_LoopsDeep.j0 k t366 t369 t371 t372 true)) else (tickinglaw06_LoopsDeep.j0 k t366 t369 t371 t372 false)) else (tickinglaw06_LoopsDeep.j0 k t366 t369 t371 t372 true)) else (if t372 = 6 then (if bt375.2 = 0 then (if bt375.1 = true then (if t371 = bt373.1 then (tickinglaw06_LoopsDeep.j0 k t366 t369 t371 t372 (t372 != bt373.2)) else (tickinglaw06_LoopsDeep.j0 k t366 t369 t371 t372 true)) else (tickinglaw06_LoopsDeep.j0 k t366 t369 t371 t372 false)) else (tickinglaw06_LoopsDeep.j0 k t366 t369 t371 t372 true)) else (tickinglaw06_LoopsDeep.j0 k t366 t369 t371 t372 true))))) = some r := H
 have A6 := Aside0.mk A60
 clear A60
 replace H := Option.bind_eq_some_iff.mp H
 obtain ⟨⟨t373, t374⟩, A70, H⟩ := H
 replace H : ((loops_Equal.f k t366 t369 t370).bind fun bt375 => (if t372 = 0 then (if bt375.2 = 0 then (if bt375.1 = true then (if t371 = t373 then (tickinglaw06_LoopsDeep.j0 k t366 t369 t371 t372 (t372 != t374)) else (tickinglaw06_LoopsDeep.j0 k t366 t369 t371 t372 true)) else (tickinglaw06_LoopsDeep.j0 k t366 t369 t371 t372 false)) else (tickinglaw06_LoopsDeep.j0 k t366 t369 t371 t372 true)) else (if t372 = 6 then (if bt375.2 = 0 then (if bt375.1 = true then (if t371 = t373 then (tickinglaw06_LoopsDeep.j0 k t366 t369 t371 t372 (t372 != t374)) else (tickinglaw06_LoopsDeep.j0 k t366 t369 t371 t372 true)) else (tickinglaw06_LoopsDeep.j0 k t366 t369 t371 t372 false)) else (tickinglaw06_LoopsDeep.j0 k t366 t369 t371 t372 true)) else (tickinglaw06_LoopsDeep.j0 k t366 t369 t371 t372 true)))) = some r := H
 have A7 := Aside0.mk A70
 clear A70
 replace H := Option.bind_eq_some_iff.mp H
 obtain ⟨⟨t375, t376⟩, A80, H⟩ := H
 replace H : (if t372 = 0 then (if t376 = 0 then (if t375 = true then (if t371 = t373 then (tickinglaw06_LoopsDeep.j0 k t366 t369 t371 t372 (t372 != t374)) else (tickinglaw06_LoopsDeep.j0 k t366 t369 t371 t372 true)) else (tickinglaw06_LoopsDeep.j0 k t366 t369 t371 t372 false)) else (tickinglaw06_LoopsDeep.j0 k t366 t369 t371 t372 true)) else (if t372 = 6 then (if t376 = 0 then (if t375 = true then (if t371 = t373 then (tickinglaw06_LoopsDeep.j0 k t366 t369 t371 t372 (t372 != t374)) else (tickinglaw06_LoopsDeep.j0 k t366 t369 t371 t372 true)) else (tickinglaw06_LoopsDeep.j0 k t366 t369 t371 t372 false)) else (tickinglaw06_LoopsDeep.j0 k t366 t369 t371 t372 true)) else (tickinglaw06_LoopsDeep.j0 k t366 t369 t371 t372 true))) = some r := H
 have A8 := Aside0.mk A80
 clear A80
 have HC9 := Aside0.mk H
 clear H
 go_enter Try.func6, Try.ntmps6
 go_upto_region 6 with (first | ((with_reducible refine gate_dst (N := 3) rfl ?_); (try (refine gate_guard (by rfl) ?_; dsimp only)); refine box_event ?hg (N := 3) ?hd (cs := #[.int .i64 a1_0, .int .i64 a1_1]) (t := 23) ?hr ?_; (case hd => rfl); (case hg => rfl); (case hr => first | (go_simp; done) | (go_simp; rfl)); intro gb365 hg w10 hbox hb; have n0_ := Aside0.mk (below_step (by repeat (first | (with_reducible first | exact HB.out | apply below_alloc | apply pw_below_drewN | apply below_drew1) | exact HB.out)) hb); have n1_ := Aside0.mk (hbox); have n2_ := Aside0.mk ((by rw [hg]; exact (below_size (by repeat (first | (with_reducible first | exact HB.out | apply below_alloc | apply pw_below_drewN | apply below_drew1) | exact HB.out))) : w.heap.size ≤ gb365)); have n3_ := Aside0.mk ((by rw [hg]; exact (below_size (by repeat (first | (with_reducible first | exact HB.out | apply below_alloc | apply pw_below_drewN | apply below_drew1) | exact HB.out))) : w.heap.size ≤ gb365)); clear HB; have HB := n0_; have BK365 := n1_; have GW365 := n2_; have GE365 := n3_; clear n0_ n1_ n2_ n3_; clear hb hbox hg) | (go_at_call 23; (with_reducible refine (tickinglaw06_tame.calls k _ _ l0 16 t366 _ ?side1 ?side2 A3.out).mono ?_); (case side1 => repeat (first | exact (Kd.C_below HR0.out HB.out) | (with_reducible refine Kd.C_alloc ?_ _) | (with_reducible refine Kd.C_drewN ?_ _) | (with_reducible refine Kd.C_drew ?_))); (case side2 => exact HC0.out); rintro e w11 ⟨v367, rfl, ho0, hb⟩; have n0_ := Aside0.mk (Kd.R_lower ho0 (below_size (by repeat (first | (with_reducible first | exact HB.out | apply below_alloc | apply pw_below_drewN | apply below_drew1 | refine below_set ?_ GE365.out) | exact HB.out)))); have n1_ := Aside0.mk (blk_below (g := gb365) (o := .cells #[.int .i64 a1_0, .int .i64 a1_1] 23 (0, 0)) (by (with_reducible repeat (first | refine blk_drewN ?_ _ | refine blk_drew ?_ | refine blk_alloc ?_ _)); exact BK365.out) hb); have n2_ := Aside0.mk (below_step (by repeat (first | (with_reducible first | exact HB.out | apply below_alloc | apply pw_below_drewN | apply below_drew1 | refine below_set ?_ GE365.out) | exact HB.out)) hb); clear BK365; clear HB; have HO368 := n0_; have BK365 := n1_; have HB := n2_; clear n0_ n1_ n2_; (try clear hb); (try clear hb2); (try clear hk); (try clear hi); (try clear ho0); have hcz12_0 : w11.cell? ⟨gb365, 0, none⟩ = some (.int .i64 a1_0) := (blk_cell BK365.out 0).trans rfl; have hcz12_1 : w11.cell? ⟨gb365, 1, none⟩ = some (.int .i64 a1_1) := (blk_cell BK365.out 1).trans rfl; have hfz12_0 := blk_frozen BK365.out 0; have hfz12_1 := blk_frozen BK365.out 1; obtain ⟨Ao13, co13, eo13⟩ := Kd.R_slice HO368.out; subst eo13) | (go_at_call 24; (with_reducible refine (tickinglaw06_mod.calls a1_0 (t366.length : Int) t369 _ A4.out).mono ?_); rintro e w' ⟨rfl, ⟨nd, rfl⟩⟩; (try first | exact ⟨rfl, _, World.drewN_drewN _ _ _⟩ | exact ⟨rfl, _, Eq.trans (World.drewN_drewN _ _ _) (congrArg (World.drewN _) (Nat.add_assoc _ _ _))⟩)) | (go_at_call 24; (with_reducible refine (tickinglaw06_mod.calls a1_1 (t366.length : Int) t370 _ A5.out).mono ?_); rintro e w' ⟨rfl, ⟨nd, rfl⟩⟩; (try first | exact ⟨rfl, _, World.drewN_drewN _ _ _⟩ | exact ⟨rfl, _, Eq.trans (World.drewN_drewN _ _ _) (congrArg (World.drewN _) (Nat.add_assoc _ _ _))⟩)) | (go_at_call 28; (with_reducible refine (loops_Depth.calls k _ _ t366 t369 t371 t372 _ ?side1 ?side2 A6.out).mono ?_); (case side1 => repeat (first | exact (Kd.R_reads' HO368.out).2.2 | (with_reducible refine Kd.C_alloc ?_ _) | (with_reducible refine Kd.C_drewN ?_ _) | (with_reducible refine Kd.C_drew ?_))); (case side2 => exact (Kd.R_reads' HO368.out).2.1); rintro e w14 ⟨rfl, hb⟩; have n0_ := Aside0.mk (Kd.R_below (by (with_reducible repeat (first | apply Kd.R_alloc | apply Kd.R_drewN | apply Kd.R_drew)); exact HO368.out) hb); have n1_ := Aside0.mk (blk_below (g := gb365) (o := .cells #[.int .i64 a1_0, .int .i64 a1_1] 23 (0, 0)) (by (with_reducible repeat (first | refine blk_drewN ?_ _ | refine blk_drew ?_ | refine blk_alloc ?_ _)); exact BK365.out) hb); have n2_ := Aside0.mk (below_step (by repeat (first | (with_reducible first | exact HB.out | apply below_alloc | apply pw_below_drewN | apply below_drew1 | refine below_set ?_ GE365.out) | exact HB.out)) hb); clear HO368; clear BK365; clear HB; have HO368 := n0_; have BK365 := n1_; have HB := n2_; clear n0_ n1_ n2_; (try clear hb); (try clear hb2); (try clear hk); (try clear hi)) | (go_at_call 28; (with_reducible refine (loops_Depth.calls k _ _ t366 t370 t373 t374 _ ?side1 ?side2 A7.out).mono ?_); (case side1 => repeat (first | exact (Kd.R_reads' HO368.out).2.2 | (with_reducible refine Kd.C_alloc ?_ _) | (with_reducible refine Kd.C_drewN ?_ _) | (with_reducible refine Kd.C_drew ?_))); (case side2 => exact (Kd.R_reads' HO368.out).2.1); rintro e w15 ⟨rfl, hb⟩; have n0_ := Aside0.mk (Kd.R_below (by (with_reducible repeat (first | apply Kd.R_alloc | apply Kd.R_drewN | apply Kd.R_drew)); exact HO368.out) hb); have n1_ := Aside0.mk (blk_below (g := gb365) (o := .cells #[.int .i64 a1_0, .int .i64 a1_1] 23 (0, 0)) (by (with_reducible repeat (first | refine blk_drewN ?_ _ | refine blk_drew ?_ | refine blk_alloc ?_ _)); exact BK365.out) hb); have n2_ := Aside0.mk (below_step (by repeat (first | (with_reducible first | exact HB.out | apply below_alloc | apply pw_below_drewN | apply below_drew1 | refine below_set ?_ GE365.out) | exact HB.out)) hb); clear HO368; clear BK365; clear HB; have HO368 := n0_; have BK365 := n1_; have HB := n2_; clear n0_ n1_ n2_; (try clear hb); (try clear hb2); (try clear hk); (try clear hi)) | (go_at_call 16; (with_reducible refine (loops_Equal.calls k _ _ t366 t369 t370 t375 t376 _ ?side1 ?side2 A8.out).mono ?_); (case side1 => repeat (first | exact (Kd.R_reads' HO368.out).2.2 | (with_reducible refine Kd.C_alloc ?_ _) | (with_reducible refine Kd.C_drewN ?_ _) | (with_reducible refine Kd.C_drew ?_))); (case side2 => exact (Kd.R_reads' HO368.out).2.1); rintro e w16 ⟨rfl, hb⟩; have n0_ := Aside0.mk (Kd.R_below (by (with_reducible repeat (first | apply Kd.R_alloc | apply Kd.R_drewN | apply Kd.R_drew)); exact HO368.out) hb); have n1_ := Aside0.mk (blk_below (g := gb365) (o := .cells #[.int .i64 a1_0, .int .i64 a1_1] 23 (0, 0)) (by (with_reducible repeat (first | refine blk_drewN ?_ _ | refine blk_drew ?_ | refine blk_alloc ?_ _)); exact BK365.out) hb); have n2_ := Aside0.mk (below_step (by repeat (first | (with_reducible first | exact HB.out | apply below_alloc | apply pw_below_drewN | apply below_drew1 | refine below_set ?_ GE365.out) | exact HB.out)) hb); clear HO368; clear BK365; clear HB; have HO368 := n0_; have BK365 := n1_; have HB := n2_; clear n0_ n1_ n2_; (try clear hb); (try clear hb2); (try clear hk); (try clear hi)))
 repeat (go_quiet (first | ((with_reducible refine gate_dst (N := 3) rfl ?_); (try (refine gate_guard (by rfl) ?_; dsimp only)); refine box_event ?hg (N := 3) ?hd (cs := #[.int .i64 a1_0, .int .i64 a1_1]) (t := 23) ?hr ?_; (case hd => rfl); (case hg => rfl); (case hr => first | (go_simp; done) | (go_simp; rfl)); intro gb365 hg w10 hbox hb; have n0_ := Aside0.mk (below_step (by repeat (first | (with_reducible first | exact HB.out | apply below_alloc | apply pw_below_drewN | apply below_drew1) | exact HB.out)) hb); have n1_ := Aside0.mk (hbox); have n2_ := Aside0.mk ((by rw [hg]; exact (below_size (by repeat (first | (with_reducible first | exact HB.out | apply below_alloc | apply pw_below_drewN | apply below_drew1) | exact HB.out))) : w.heap.size ≤ gb365)); have n3_ := Aside0.mk ((by rw [hg]; exact (below_size (by repeat (first | (with_reducible first | exact HB.out | apply below_alloc | apply pw_below_drewN | apply below_drew1) | exact HB.out))) : w.heap.size ≤ gb365)); clear HB; have HB := n0_; have BK365 := n1_; have GW365 := n2_; have GE365 := n3_; clear n0_ n1_ n2_ n3_; clear hb hbox hg) | (go_at_call 23; (with_reducible refine (tickinglaw06_tame.calls k _ _ l0 16 t366 _ ?side1 ?side2 A3.out).mono ?_); (case side1 => repeat (first | exact (Kd.C_below HR0.out HB.out) | (with_reducible refine Kd.C_alloc ?_ _) | (with_reducible refine Kd.C_drewN ?_ _) | (with_reducible refine Kd.C_drew ?_))); (case side2 => exact HC0.out); rintro e w11 ⟨v367, rfl, ho0, hb⟩; have n0_ := Aside0.mk (Kd.R_lower ho0 (below_size (by repeat (first | (with_reducible first | exact HB.out | apply below_alloc | apply pw_below_drewN | apply below_drew1 | refine below_set ?_ GE365.out) | exact HB.out)))); have n1_ := Aside0.mk (blk_below (g := gb365) (o := .cells #[.int .i64 a1_0, .int .i64 a1_1] 23 (0, 0)) (by (with_reducible repeat (first | refine blk_drewN ?_ _ | refine blk_drew ?_ | refine blk_alloc ?_ _)); exact BK365.out) hb); have n2_ := Aside0.mk (below_step (by repeat (first | (with_reducible first | exact HB.out | apply below_alloc | apply pw_below_drewN | apply below_drew1 | refine below_set ?_ GE365.out) | exact HB.out)) hb); clear BK365; clear HB; have HO368 := n0_; have BK365 := n1_; have HB := n2_; clear n0_ n1_ n2_; (try clear hb); (try clear hb2); (try clear hk); (try clear hi); (try clear ho0); have hcz12_0 : w11.cell? ⟨gb365, 0, none⟩ = some (.int .i64 a1_0) := (blk_cell BK365.out 0).trans rfl; have hcz12_1 : w11.cell? ⟨gb365, 1, none⟩ = some (.int .i64 a1_1) := (blk_cell BK365.out 1).trans rfl; have hfz12_0 := blk_frozen BK365.out 0; have hfz12_1 := blk_frozen BK365.out 1; obtain ⟨Ao13, co13, eo13⟩ := Kd.R_slice HO368.out; subst eo13) | (go_at_call 24; (with_reducible refine (tickinglaw06_mod.calls a1_0 (t366.length : Int) t369 _ A4.out).mono ?_); rintro e w' ⟨rfl, ⟨nd, rfl⟩⟩; (try first | exact ⟨rfl, _, World.drewN_drewN _ _ _⟩ | exact ⟨rfl, _, Eq.trans (World.drewN_drewN _ _ _) (congrArg (World.drewN _) (Nat.add_assoc _ _ _))⟩)) | (go_at_call 24; (with_reducible refine (tickinglaw06_mod.calls a1_1 (t366.length : Int) t370 _ A5.out).mono ?_); rintro e w' ⟨rfl, ⟨nd, rfl⟩⟩; (try first | exact ⟨rfl, _, World.drewN_drewN _ _ _⟩ | exact ⟨rfl, _, Eq.trans (World.drewN_drewN _ _ _) (congrArg (World.drewN _) (Nat.add_assoc _ _ _))⟩)) | (go_at_call 28; (with_reducible refine (loops_Depth.calls k _ _ t366 t369 t371 t372 _ ?side1 ?side2 A6.out).mono ?_); (case side1 => repeat (first | exact (Kd.R_reads' HO368.out).2.2 | (with_reducible refine Kd.C_alloc ?_ _) | (with_reducible refine Kd.C_drewN ?_ _) | (with_reducible refine Kd.C_drew ?_))); (case side2 => exact (Kd.R_reads' HO368.out).2.1); rintro e w14 ⟨rfl, hb⟩; have n0_ := Aside0.mk (Kd.R_below (by (with_reducible repeat (first | apply Kd.R_alloc | apply Kd.R_drewN | apply Kd.R_drew)); exact HO368.out) hb); have n1_ := Aside0.mk (blk_below (g := gb365) (o := .cells #[.int .i64 a1_0, .int .i64 a1_1] 23 (0, 0)) (by (with_reducible repeat (first | refine blk_drewN ?_ _ | refine blk_drew ?_ | refine blk_alloc ?_ _)); exact BK365.out) hb); have n2_ := Aside0.mk (below_step (by repeat (first | (with_reducible first | exact HB.out | apply below_alloc | apply pw_below_drewN | apply below_drew1 | refine below_set ?_ GE365.out) | exact HB.out)) hb); clear HO368; clear BK365; clear HB; have HO368 := n0_; have BK365 := n1_; have HB := n2_; clear n0_ n1_ n2_; (try clear hb); (try clear hb2); (try clear hk); (try clear hi)) | (go_at_call 28; (with_reducible refine (loops_Depth.calls k _ _ t366 t370 t373 t374 _ ?side1 ?side2 A7.out).mono ?_); (case side1 => repeat (first | exact (Kd.R_reads' HO368.out).2.2 | (with_reducible refine Kd.C_alloc ?_ _) | (with_reducible refine Kd.C_drewN ?_ _) | (with_reducible refine Kd.C_drew ?_))); (case side2 => exact (Kd.R_reads' HO368.out).2.1); rintro e w15 ⟨rfl, hb⟩; have n0_ := Aside0.mk (Kd.R_below (by (with_reducible repeat (first | apply Kd.R_alloc | apply Kd.R_drewN | apply Kd.R_drew)); exact HO368.out) hb); have n1_ := Aside0.mk (blk_below (g := gb365) (o := .cells #[.int .i64 a1_0, .int .i64 a1_1] 23 (0, 0)) (by (with_reducible repeat (first | refine blk_drewN ?_ _ | refine blk_drew ?_ | refine blk_alloc ?_ _)); exact BK365.out) hb); have n2_ := Aside0.mk (below_step (by repeat (first | (with_reducible first | exact HB.out | apply below_alloc | apply pw_below_drewN | apply below_drew1 | refine below_set ?_ GE365.out) | exact HB.out)) hb); clear HO368; clear BK365; clear HB; have HO368 := n0_; have BK365 := n1_; have HB := n2_; clear n0_ n1_ n2_; (try clear hb); (try clear hb2); (try clear hk); (try clear hi)) | (go_at_call 16; (with_reducible refine (loops_Equal.calls k _ _ t366 t369 t370 t375 t376 _ ?side1 ?side2 A8.out).mono ?_); (case side1 => repeat (first | exact (Kd.R_reads' HO368.out).2.2 | (with_reducible refine Kd.C_alloc ?_ _) | (with_reducible refine Kd.C_drewN ?_ _) | (with_reducible refine Kd.C_drew ?_))); (case side2 => exact (Kd.R_reads' HO368.out).2.1); rintro e w16 ⟨rfl, hb⟩; have n0_ := Aside0.mk (Kd.R_below (by (with_reducible repeat (first | apply Kd.R_alloc | apply Kd.R_drewN | apply Kd.R_drew)); exact HO368.out) hb); have n1_ := Aside0.mk (blk_below (g := gb365) (o := .cells #[.int .i64 a1_0, .int .i64 a1_1] 23 (0, 0)) (by (with_reducible repeat (first | refine blk_drewN ?_ _ | refine blk_drew ?_ | refine blk_alloc ?_ _)); exact BK365.out) hb); have n2_ := Aside0.mk (below_step (by repeat (first | (with_reducible first | exact HB.out | apply below_alloc | apply pw_below_drewN | apply below_drew1 | refine below_set ?_ GE365.out) | exact HB.out)) hb); clear HO368; clear BK365; clear HB; have HO368 := n0_; have BK365 := n1_; have HB := n2_; clear n0_ n1_ n2_; (try clear hb); (try clear hb2); (try clear hk); (try clear hi))); go_upto_region 6 with (first | ((with_reducible refine gate_dst (N := 3) rfl ?_); (try (refine gate_guard (by rfl) ?_; dsimp only)); refine box_event ?hg (N := 3) ?hd (cs := #[.int .i64 a1_0, .int .i64 a1_1]) (t := 23) ?hr ?_; (case hd => rfl); (case hg => rfl); (case hr => first | (go_simp; done) | (go_simp; rfl)); intro gb365 hg w10 hbox hb; have n0_ := Aside0.mk (below_step (by repeat (first | (with_reducible first | exact HB.out | apply below_alloc | apply pw_below_drewN | apply below_drew1) | exact HB.out)) hb); have n1_ := Aside0.mk (hbox); have n2_ := Aside0.mk ((by rw [hg]; exact (below_size (by repeat (first | (with_reducible first | exact HB.out | apply below_alloc | apply pw_below_drewN | apply below_drew1) | exact HB.out))) : w.heap.size ≤ gb365)); have n3_ := Aside0.mk ((by rw [hg]; exact (below_size (by repeat (first | (with_reducible first | exact HB.out | apply below_alloc | apply pw_below_drewN | apply below_drew1) | exact HB.out))) : w.heap.size ≤ gb365)); clear HB; have HB := n0_; have BK365 := n1_; have GW365 := n2_; have GE365 := n3_; clear n0_ n1_ n2_ n3_; clear hb hbox hg) | (go_at_call 23; (with_reducible refine (tickinglaw06_tame.calls k _ _ l0 16 t366 _ ?side1 ?side2 A3.out).mono ?_); (case side1 => repeat (first | exact (Kd.C_below HR0.out HB.out) | (with_reducible refine Kd.C_alloc ?_ _) | (with_reducible refine Kd.C_drewN ?_ _) | (with_reducible refine Kd.C_drew ?_))); (case side2 => exact HC0.out); rintro e w11 ⟨v367, rfl, ho0, hb⟩; have n0_ := Aside0.mk (Kd.R_lower ho0 (below_size (by repeat (first | (with_reducible first | exact HB.out | apply below_alloc | apply pw_below_drewN | apply below_drew1 | refine below_set ?_ GE365.out) | exact HB.out)))); have n1_ := Aside0.mk (blk_below (g := gb365) (o := .cells #[.int .i64 a1_0, .int .i64 a1_1] 23 (0, 0)) (by (with_reducible repeat (first | refine blk_drewN ?_ _ | refine blk_drew ?_ | refine blk_alloc ?_ _)); exact BK365.out) hb); have n2_ := Aside0.mk (below_step (by repeat (first | (with_reducible first | exact HB.out | apply below_alloc | apply pw_below_drewN | apply below_drew1 | refine below_set ?_ GE365.out) | exact HB.out)) hb); clear BK365; clear HB; have HO368 := n0_; have BK365 := n1_; have HB := n2_; clear n0_ n1_ n2_; (try clear hb); (try clear hb2); (try clear hk); (try clear hi); (try clear ho0); have hcz12_0 : w11.cell? ⟨gb365, 0, none⟩ = some (.int .i64 a1_0) := (blk_cell BK365.out 0).trans rfl; have hcz12_1 : w11.cell? ⟨gb365, 1, none⟩ = some (.int .i64 a1_1) := (blk_cell BK365.out 1).trans rfl; have hfz12_0 := blk_frozen BK365.out 0; have hfz12_1 := blk_frozen BK365.out 1; obtain ⟨Ao13, co13, eo13⟩ := Kd.R_slice HO368.out; subst eo13) | (go_at_call 24; (with_reducible refine (tickinglaw06_mod.calls a1_0 (t366.length : Int) t369 _ A4.out).mono ?_); rintro e w' ⟨rfl, ⟨nd, rfl⟩⟩; (try first | exact ⟨rfl, _, World.drewN_drewN _ _ _⟩ | exact ⟨rfl, _, Eq.trans (World.drewN_drewN _ _ _) (congrArg (World.drewN _) (Nat.add_assoc _ _ _))⟩)) | (go_at_call 24; (with_reducible refine (tickinglaw06_mod.calls a1_1 (t366.length : Int) t370 _ A5.out).mono ?_); rintro e w' ⟨rfl, ⟨nd, rfl⟩⟩; (try first | exact ⟨rfl, _, World.drewN_drewN _ _ _⟩ | exact ⟨rfl, _, Eq.trans (World.drewN_drewN _ _ _) (congrArg (World.drewN _) (Nat.add_assoc _ _ _))⟩)) | (go_at_call 28; (with_reducible refine (loops_Depth.calls k _ _ t366 t369 t371 t372 _ ?side1 ?side2 A6.out).mono ?_); (case side1 => repeat (first | exact (Kd.R_reads' HO368.out).2.2 | (with_reducible refine Kd.C_alloc ?_ _) | (with_reducible refine Kd.C_drewN ?_ _) | (with_reducible refine Kd.C_drew ?_))); (case side2 => exact (Kd.R_reads' HO368.out).2.1); rintro e w14 ⟨rfl, hb⟩; have n0_ := Aside0.mk (Kd.R_below (by (with_reducible repeat (first | apply Kd.R_alloc | apply Kd.R_drewN | apply Kd.R_drew)); exact HO368.out) hb); have n1_ := Aside0.mk (blk_below (g := gb365) (o := .cells #[.int .i64 a1_0, .int .i64 a1_1] 23 (0, 0)) (by (with_reducible repeat (first | refine blk_drewN ?_ _ | refine blk_drew ?_ | refine blk_alloc ?_ _)); exact BK365.out) hb); have n2_ := Aside0.mk (below_step (by repeat (first | (with_reducible first | exact HB.out | apply below_alloc | apply pw_below_drewN | apply below_drew1 | refine below_set ?_ GE365.out) | exact HB.out)) hb); clear HO368; clear BK365; clear HB; have HO368 := n0_; have BK365 := n1_; have HB := n2_; clear n0_ n1_ n2_; (try clear hb); (try clear hb2); (try clear hk); (try clear hi)) | (go_at_call 28; (with_reducible refine (loops_Depth.calls k _ _ t366 t370 t373 t374 _ ?side1 ?side2 A7.out).mono ?_); (case side1 => repeat (first | exact (Kd.R_reads' HO368.out).2.2 | (with_reducible refine Kd.C_alloc ?_ _) | (with_reducible refine Kd.C_drewN ?_ _) | (with_reducible refine Kd.C_drew ?_))); (case side2 => exact (Kd.R_reads' HO368.out).2.1); rintro e w15 ⟨rfl, hb⟩; have n0_ := Aside0.mk (Kd.R_below (by (with_reducible repeat (first | apply Kd.R_alloc | apply Kd.R_drewN | apply Kd.R_drew)); exact HO368.out) hb); have n1_ := Aside0.mk (blk_below (g := gb365) (o := .cells #[.int .i64 a1_0, .int .i64 a1_1] 23 (0, 0)) (by (with_reducible repeat (first | refine blk_drewN ?_ _ | refine blk_drew ?_ | refine blk_alloc ?_ _)); exact BK365.out) hb); have n2_ := Aside0.mk (below_step (by repeat (first | (with_reducible first | exact HB.out | apply below_alloc | apply pw_below_drewN | apply below_drew1 | refine below_set ?_ GE365.out) | exact HB.out)) hb); clear HO368; clear BK365; clear HB; have HO368 := n0_; have BK365 := n1_; have HB := n2_; clear n0_ n1_ n2_; (try clear hb); (try clear hb2); (try clear hk); (try clear hi)) | (go_at_call 16; (with_reducible refine (loops_Equal.calls k _ _ t366 t369 t370 t375 t376 _ ?side1 ?side2 A8.out).mono ?_); (case side1 => repeat (first | exact (Kd.R_reads' HO368.out).2.2 | (with_reducible refine Kd.C_alloc ?_ _) | (with_reducible refine Kd.C_drewN ?_ _) | (with_reducible refine Kd.C_drew ?_))); (case side2 => exact (Kd.R_reads' HO368.out).2.1); rintro e w16 ⟨rfl, hb⟩; have n0_ := Aside0.mk (Kd.R_below (by (with_reducible repeat (first | apply Kd.R_alloc | apply Kd.R_drewN | apply Kd.R_drew)); exact HO368.out) hb); have n1_ := Aside0.mk (blk_below (g := gb365) (o := .cells #[.int .i64 a1_0, .int .i64 a1_1] 23 (0, 0)) (by (with_reducible repeat (first | refine blk_drewN ?_ _ | refine blk_drew ?_ | refine blk_alloc ?_ _)); exact BK365.out) hb); have n2_ := Aside0.mk (below_step (by repeat (first | (with_reducible first | exact HB.out | apply below_alloc | apply pw_below_drewN | apply below_drew1 | refine below_set ?_ GE365.out) | exact HB.out)) hb); clear HO368; clear BK365; clear HB; have HO368 := n0_; have BK365 := n1_; have HB := n2_; clear n0_ n1_ n2_; (try clear hb); (try clear hb2); (try clear hk); (try clear hi))))
 (try simp only [Act.put, List.setIfInBounds_toArray, List.set_cons_zero, List.set_cons_succ])
 go_cut [71] (fun v71 wc => ∃ (kq : Nat) (x71_8 : Bool), v71 = .bool x71_8 ∧ Aside0 (tickinglaw06_LoopsDeep.j0 kq t366 t369 t371 t372 x71_8 = some r) ∧ Aside0 (kq ≤ k) ∧ Aside0 (Kd.R k39 39 wc w.heap.size (fun _ => True) (.slice Ao13 t366.length co13) t366) ∧ Aside0 (wc.heap[gb365]? = some (.cells #[.int .i64 a1_0, .int .i64 a1_1] 23 (0, 0))) ∧ Aside0 (Below w.heap.size w wc))
 case first =>
  have H := HC9.out
  clear HC9
  by_cases c17 : t372 = 0
  ·rw [if_pos c17] at H
   have c17b0 : (t372 == 0) = true := beq_iff_eq.mpr c17
   have c17b1 : (t372 != 0) = false := bne_eq_false_iff_eq.mpr c17
   clear c17
   (first | rw [c17b0] | (simp only [i64_w, i32_w]; rw [c17b0]) | skip)
   by_cases c18 : t376 = 0
   ·rw [if_pos c18] at H
    have c18b0 : (t376 == 0) = true := beq_iff_eq.mpr c18
    have c18b1 : (t376 != 0) = false := bne_eq_false_iff_eq.mpr c18
    clear c18
    by_cases c19 : t375 = true
    ·subst c19
     have H1 : (if t371 = t373 then (tickinglaw06_LoopsDeep.j0 k t366 t369 t371 t372 (t372 != t374)) else (tickinglaw06_LoopsDeep.j0 k t366 t369 t371 t372 true)) = some r := by rw [if_pos rfl] at H; exact H
     clear H
     have H := H1
     clear H1
     by_cases c20 : t371 = t373
     ·rw [if_pos c20] at H
      have c20b0 : (t371 == t373) = true := beq_iff_eq.mpr c20
      have c20b1 : (t371 != t373) = false := bne_eq_false_iff_eq.mpr c20
      clear c20
      have H' := Aside0.mk H
      clear H
      go_wp2
      repeat (go_quiet (fail); try go_wp2)
      go_meet
      case rel => exact ⟨_, ((t372 != t374)), (by first | rfl | (simp; done) | (simp [*]; done)), H', ⟨by first | omega | exact Nat.le_refl _⟩, ⟨by (with_reducible repeat (first | apply Kd.R_alloc | apply Kd.R_drewN | apply Kd.R_drew)); exact HO368.out⟩, ⟨by (with_reducible repeat (first | refine blk_drewN ?_ _ | refine blk_drew ?_ | refine blk_alloc ?_ _)); exact BK365.out⟩, ⟨by repeat (first | (with_reducible first | exact HB.out | apply below_alloc | apply pw_below_drewN | apply below_drew1 | refine below_set ?_ GE365.out) | exact HB.out)⟩⟩
     ·rw [if_neg c20] at H
      have c20b0 : (t371 == t373) = false := beq_eq_false_iff_ne.mpr c20
      have c20b1 : (t371 != t373) = true := bne_iff_ne.mpr c20
      have H' := Aside0.mk H
      clear H
      go_wp2
      repeat (go_quiet (fail); try go_wp2)
      go_meet
      case rel => exact ⟨_, (true), (by first | rfl | (simp; done) | (simp [*]; done)), H', ⟨by first | omega | exact Nat.le_refl _⟩, ⟨by (with_reducible repeat (first | apply Kd.R_alloc | apply Kd.R_drewN | apply Kd.R_drew)); exact HO368.out⟩, ⟨by (with_reducible repeat (first | refine blk_drewN ?_ _ | refine blk_drew ?_ | refine blk_alloc ?_ _)); exact BK365.out⟩, ⟨by repeat (first | (with_reducible first | exact HB.out | apply below_alloc | apply pw_below_drewN | apply below_drew1 | refine below_set ?_ GE365.out) | exact HB.out)⟩⟩
    ·replace c19 := Bool.eq_false_iff.mpr c19
     subst c19
     have H1 : (tickinglaw06_LoopsDeep.j0 k t366 t369 t371 t372 false) = some r := by rw [if_neg (show ¬ (false = true) by decide)] at H; exact H
     clear H
     have H := H1
     clear H1
     have H' := Aside0.mk H
     clear H
     go_wp2
     repeat (go_quiet (fail); try go_wp2)
     go_meet
     case rel => exact ⟨_, (false), (by first | rfl | (simp; done) | (simp [*]; done)), H', ⟨by first | omega | exact Nat.le_refl _⟩, ⟨by (with_reducible repeat (first | apply Kd.R_alloc | apply Kd.R_drewN | apply Kd.R_drew)); exact HO368.out⟩, ⟨by (with_reducible repeat (first | refine blk_drewN ?_ _ | refine blk_drew ?_ | refine blk_alloc ?_ _)); exact BK365.out⟩, ⟨by repeat (first | (with_reducible first | exact HB.out | apply below_alloc | apply pw_below_drewN | apply below_drew1 | refine below_set ?_ GE365.out) | exact HB.out)⟩⟩
   ·rw [if_neg c18] at H
    have c18b0 : (t376 == 0) = false := beq_eq_false_iff_ne.mpr c18
    have c18b1 : (t376 != 0) = true := bne_iff_ne.mpr c18
    have H' := Aside0.mk H
    clear H
    go_wp2
    repeat (go_quiet (fail); try go_wp2)
    go_meet
    case rel => exact ⟨_, (true), (by first | rfl | (simp; done) | (simp [*]; done)), H', ⟨by first | omega | exact Nat.le_refl _⟩, ⟨by (with_reducible repeat (first | apply Kd.R_alloc | apply Kd.R_drewN | apply Kd.R_drew)); exact HO368.out⟩, ⟨by (with_reducible repeat (first | refine blk_drewN ?_ _ | refine blk_drew ?_ | refine blk_alloc ?_ _)); exact BK365.out⟩, ⟨by repeat (first | (with_reducible first | exact HB.out | apply below_alloc | apply pw_below_drewN | apply below_drew1 | refine below_set ?_ GE365.out) | exact HB.out)⟩⟩
  ·rw [if_neg c17] at H
   have c17b0 : (t372 == 0) = false := beq_eq_false_iff_ne.mpr c17
   have c17b1 : (t372 != 0) = true := bne_iff_ne.mpr c17
   (first | rw [c17b0] | (simp only [i64_w, i32_w]; rw [c17b0]) | skip)
   by_cases c21 : t372 = 6
   ·rw [if_pos c21] at H
    have c21b0 : (t372 == 6) = true := beq_iff_eq.mpr c21
    have c21b1 : (t372 != 6) = false := bne_eq_false_iff_eq.mpr c21
    clear c21
    by_cases c22 : t376 = 0
    ·rw [if_pos c22] at H
     have c22b0 : (t376 == 0) = true := beq_iff_eq.mpr c22
     have c22b1 : (t376 != 0) = false := bne_eq_false_iff_eq.mpr c22
     clear c22
     by_cases c23 : t375 = true
     ·subst c23
      have H1 : (if t371 = t373 then (tickinglaw06_LoopsDeep.j0 k t366 t369 t371 t372 (t372 != t374)) else (tickinglaw06_LoopsDeep.j0 k t366 t369 t371 t372 true)) = some r := by rw [if_pos rfl] at H; exact H
      clear H
      have H := H1
      clear H1
      by_cases c24 : t371 = t373
      ·rw [if_pos c24] at H
       have c24b0 : (t371 == t373) = true := beq_iff_eq.mpr c24
       have c24b1 : (t371 != t373) = false := bne_eq_false_iff_eq.mpr c24
       clear c24
       have H' := Aside0.mk H
       clear H
       go_wp2
       repeat (go_quiet (fail); try go_wp2)
       go_meet
       case rel => exact ⟨_, ((t372 != t374)), (by first | rfl | (simp; done) | (simp [*]; done)), H', ⟨by first | omega | exact Nat.le_refl _⟩, ⟨by (with_reducible repeat (first | apply Kd.R_alloc | apply Kd.R_drewN | apply Kd.R_drew)); exact HO368.out⟩, ⟨by (with_reducible repeat (first | refine blk_drewN ?_ _ | refine blk_drew ?_ | refine blk_alloc ?_ _)); exact BK365.out⟩, ⟨by repeat (first | (with_reducible first | exact HB.out | apply below_alloc | apply pw_below_drewN | apply below_drew1 | refine below_set ?_ GE365.out) | exact HB.out)⟩⟩
      ·rw [if_neg c24] at H
       have c24b0 : (t371 == t373) = false := beq_eq_false_iff_ne.mpr c24
       have c24b1 : (t371 != t373) = true := bne_iff_ne.mpr c24
       have H' := Aside0.mk H
       clear H
       go_wp2
       repeat (go_quiet (fail); try go_wp2)
       go_meet
       case rel => exact ⟨_, (true), (by first | rfl | (simp; done) | (simp [*]; done)), H', ⟨by first | omega | exact Nat.le_refl _⟩, ⟨by (with_reducible repeat (first | apply Kd.R_alloc | apply Kd.R_drewN | apply Kd.R_drew)); exact HO368.out⟩, ⟨by (with_reducible repeat (first | refine blk_drewN ?_ _ | refine blk_drew ?_ | refine blk_alloc ?_ _)); exact BK365.out⟩, ⟨by repeat (first | (with_reducible first | exact HB.out | apply below_alloc | apply pw_below_drewN | apply below_drew1 | refine below_set ?_ GE365.out) | exact HB.out)⟩⟩
     ·replace c23 := Bool.eq_false_iff.mpr c23
      subst c23
      have H1 : (tickinglaw06_LoopsDeep.j0 k t366 t369 t371 t372 false) = some r := by rw [if_neg (show ¬ (false = true) by decide)] at H; exact H
      clear H
      have H := H1
      clear H1
      have H' := Aside0.mk H
      clear H
      go_wp2
      repeat (go_quiet (fail); try go_wp2)
      go_meet
      case rel => exact ⟨_, (false), (by first | rfl | (simp; done) | (simp [*]; done)), H', ⟨by first | omega | exact Nat.le_refl _⟩, ⟨by (with_reducible repeat (first | apply Kd.R_alloc | apply Kd.R_drewN | apply Kd.R_drew)); exact HO368.out⟩, ⟨by (with_reducible repeat (first | refine blk_drewN ?_ _ | refine blk_drew ?_ | refine blk_alloc ?_ _)); exact BK365.out⟩, ⟨by repeat (first | (with_reducible first | exact HB.out | apply below_alloc | apply pw_below_drewN | apply below_drew1 | refine below_set ?_ GE365.out) | exact HB.out)⟩⟩
    ·rw [if_neg c22] at H
     have c22b0 : (t376 == 0) = false := beq_eq_false_iff_ne.mpr c22
     have c22b1 : (t376 != 0) = true := bne_iff_ne.mpr c22
     have H' := Aside0.mk H
     clear H
     go_wp2
     repeat (go_quiet (fail); try go_wp2)
     go_meet
     case rel => exact ⟨_, (true), (by first | rfl | (simp; done) | (simp [*]; done)), H', ⟨by first | omega | exact Nat.le_refl _⟩, ⟨by (with_reducible repeat (first | apply Kd.R_alloc | apply Kd.R_drewN | apply Kd.R_drew)); exact HO368.out⟩, ⟨by (with_reducible repeat (first | refine blk_drewN ?_ _ | refine blk_drew ?_ | refine blk_alloc ?_ _)); exact BK365.out⟩, ⟨by repeat (first | (with_reducible first | exact HB.out | apply below_alloc | apply pw_below_drewN | apply below_drew1 | refine below_set ?_ GE365.out) | exact HB.out)⟩⟩
   ·rw [if_neg c21] at H
    have c21b0 : (t372 == 6) = false := beq_eq_false_iff_ne.mpr c21
    have c21b1 : (t372 != 6) = true := bne_iff_ne.mpr c21
    have H' := Aside0.mk H
    clear H
    go_wp2
    repeat (go_quiet (fail); try go_wp2)
    go_meet
    case rel => exact ⟨_, (true), (by first | rfl | (simp; done) | (simp [*]; done)), H', ⟨by first | omega | exact Nat.le_refl _⟩, ⟨by (with_reducible repeat (first | apply Kd.R_alloc | apply Kd.R_drewN | apply Kd.R_drew)); exact HO368.out⟩, ⟨by (with_reducible repeat (first | refine blk_drewN ?_ _ | refine blk_drew ?_ | refine blk_alloc ?_ _)); exact BK365.out⟩, ⟨by repeat (first | (with_reducible first | exact HB.out | apply below_alloc | apply pw_below_drewN | apply below_drew1 | refine below_set ?_ GE365.out) | exact HB.out)⟩⟩
 case rest =>
  clear HC9
  try clear c1
  try clear c2
  try clear p2
  try clear c6
  try clear c17
  try clear c17b0
  try clear c17b1
  try clear c18
  try clear c18b0
  try clear c18b1
  try clear c19
  try clear c20
  try clear c20b0
  try clear c20b1
  try clear c21
  try clear c21b0
  try clear c21b1
  try clear c22
  try clear c22b0
  try clear c22b1
  try clear c23
  try clear c24
  try clear c24b0
  try clear c24b1
  try clear hcz12_0
  try clear hcz12_1
  try clear hfz12_0
  try clear hfz12_1
  obtain ⟨kq, x71_8, rfl, HA, HJ8, HO_5, BK365, HB⟩ := hcut
  cases kq with
  | zero => exact absurd HA.out (by simp [tickinglaw06_LoopsDeep.j0])
  | succ kj8 =>
   have H := HA.out
   clear HA
   simp only [tickinglaw06_LoopsDeep.j0] at H
   by_cases c25 : x71_8 = true
   ·subst c25
    have H1 : (some false) = some r := by rw [if_pos rfl] at H; exact H
    clear H
    have H := H1
    clear H1
    obtain rfl := Option.some.inj H
    go_wp2
    repeat (go_quiet (fail); try go_wp2)
    go_ret
    exact ⟨by first | rfl | (simp [errW_none, errW_some] <;> rfl) | (simp [*, errW_none, errW_some] <;> rfl), by repeat (first | (with_reducible first | exact HB.out | apply below_alloc | apply pw_below_drewN | apply below_drew1 | refine below_set ?_ GE365.out) | exact HB.out)⟩
   ·replace c25 := Bool.eq_false_iff.mpr c25
    subst c25
    have H1 : (if 0 ≤ t369 then (if t369 < (t366.length : Int) then (if ((rd_T39 t366 t369).f0) < 4 then (if t372 = 0 then (if t371 = 0 then ((tickinglaw06_awake.f kj8).bind fun t378 => (some t378)) else (some false)) else (some false)) else ((loops_Depth.f kj8 t366 ((rd_T39 t366 t369).f1)).bind fun bt380 => ((loops_Depth.f kj8 t366 ((rd_T39 t366 t369).f2)).bind fun bt383 => (if t372 = 0 then (if bt380.2 = 0 then (if bt383.2 = 0 then (if t371 = (wrap64 (1 + (mx bt380.1 bt383.1))) then (if t371 < (t366.length : Int) then ((tickinglaw06_awake.f kj8).bind fun t385 => (some t385)) else (some false)) else (some false)) else (some false)) else (some false)) else (if bt380.2 = 0 then (if bt383.2 = 0 then (some false) else ((tickinglaw06_awake.f kj8).bind fun t386 => (some t386))) else ((tickinglaw06_awake.f kj8).bind fun t387 => (some t387))))))) else (none)) else (none)) = some r := by rw [if_neg (show ¬ (false = true) by decide)] at H; exact H
    clear H
    have H := H1
    clear H1
    by_cases c26 : 0 ≤ t369
    ·rw [if_pos c26] at H
     have c26b0 : decide (0 ≤ t369) = true := decide_eq_true c26
     clear c26
     by_cases c27 : t369 < (t366.length : Int)
     ·rw [if_pos c27] at H
      have c27b0 : decide (t369 < (t366.length : Int)) = true := decide_eq_true c27
      clear c27
      by_cases c28 : ((rd_T39 t366 t369).f0) < 4
      ·rw [if_pos c28] at H
       have c28b0 : decide (((rd_T39 t366 t369).f0) < 4) = true := decide_eq_true c28
       clear c28
       by_cases c29 : t372 = 0
       ·rw [if_pos c29] at H
        have c29b0 : (t372 == 0) = true := beq_iff_eq.mpr c29
        have c29b1 : (t372 != 0) = false := bne_eq_false_iff_eq.mpr c29
        clear c29
        by_cases c30 : t371 = 0
        ·rw [if_pos c30] at H
         have c30b0 : (t371 == 0) = true := beq_iff_eq.mpr c30
         have c30b1 : (t371 != 0) = false := bne_eq_false_iff_eq.mpr c30
         clear c30
         replace H := Option.bind_eq_some_iff.mp H
         obtain ⟨t378, A310, H⟩ := H
         replace H : (some t378) = some r := H
         have A31 := Aside0.mk A310
         clear A310
         obtain rfl := Option.some.inj H
         have p377 : 0 ≤ (t369 : Int) := of_decide_eq_true (by first | (with_reducible assumption) | assumption)
         have q377 : t369 < (t366.length : Int) := of_decide_eq_true (by first | (with_reducible assumption) | assumption)
         obtain ⟨ad377, e377, hx377_0, hx377_1, hx377_2⟩ := at_T39 (Kd.R_reads' HO_5.out).2.2 t369 p377 q377
         cases e377
         replace p377 := eq_true p377
         replace q377 := eq_true q377
         go_wp2_with (first | (go_at_call 19; (with_reducible refine (tickinglaw06_awake.calls kj8  t378 _ A31.out).mono ?_); rintro e w32 ⟨rfl, hb⟩; have n0_ := Aside0.mk (Kd.R_below (by (with_reducible repeat (first | apply Kd.R_alloc | apply Kd.R_drewN | apply Kd.R_drew)); exact HO_5.out) hb); have n1_ := Aside0.mk (blk_below (g := gb365) (o := .cells #[.int .i64 a1_0, .int .i64 a1_1] 23 (0, 0)) (by (with_reducible repeat (first | refine blk_drewN ?_ _ | refine blk_drew ?_ | refine blk_alloc ?_ _)); exact BK365.out) hb); have n2_ := Aside0.mk (below_step (by repeat (first | (with_reducible first | exact HB.out | apply below_alloc | apply pw_below_drewN | apply below_drew1 | refine below_set ?_ GE365.out) | exact HB.out)) hb); clear HO_5; clear BK365; clear HB; have HO_5 := n0_; have BK365 := n1_; have HB := n2_; clear n0_ n1_ n2_; (try clear hb); (try clear hb2); (try clear hk); (try clear hi)))
         repeat (go_quiet (first | (go_at_call 19; (with_reducible refine (tickinglaw06_awake.calls kj8  t378 _ A31.out).mono ?_); rintro e w32 ⟨rfl, hb⟩; have n0_ := Aside0.mk (Kd.R_below (by (with_reducible repeat (first | apply Kd.R_alloc | apply Kd.R_drewN | apply Kd.R_drew)); exact HO_5.out) hb); have n1_ := Aside0.mk (blk_below (g := gb365) (o := .cells #[.int .i64 a1_0, .int .i64 a1_1] 23 (0, 0)) (by (with_reducible repeat (first | refine blk_drewN ?_ _ | refine blk_drew ?_ | refine blk_alloc ?_ _)); exact BK365.out) hb); have n2_ := Aside0.mk (below_step (by repeat (first | (with_reducible first | exact HB.out | apply below_alloc | apply pw_below_drewN | apply below_drew1 | refine below_set ?_ GE365.out) | exact HB.out)) hb); clear HO_5; clear BK365; clear HB; have HO_5 := n0_; have BK365 := n1_; have HB := n2_; clear n0_ n1_ n2_; (try clear hb); (try clear hb2); (try clear hk); (try clear hi))); try go_wp2_with (first | (go_at_call 19; (with_reducible refine (tickinglaw06_awake.calls kj8  t378 _ A31.out).mono ?_); rintro e w32 ⟨rfl, hb⟩; have n0_ := Aside0.mk (Kd.R_below (by (with_reducible repeat (first | apply Kd.R_alloc | apply Kd.R_drewN | apply Kd.R_drew)); exact HO_5.out) hb); have n1_ := Aside0.mk (blk_below (g := gb365) (o := .cells #[.int .i64 a1_0, .int .i64 a1_1] 23 (0, 0)) (by (with_reducible repeat (first | refine blk_drewN ?_ _ | refine blk_drew ?_ | refine blk_alloc ?_ _)); exact BK365.out) hb); have n2_ := Aside0.mk (below_step (by repeat (first | (with_reducible first | exact HB.out | apply below_alloc | apply pw_below_drewN | apply below_drew1 | refine below_set ?_ GE365.out) | exact HB.out)) hb); clear HO_5; clear BK365; clear HB; have HO_5 := n0_; have BK365 := n1_; have HB := n2_; clear n0_ n1_ n2_; (try clear hb); (try clear hb2); (try clear hk); (try clear hi))))
         go_ret
         exact ⟨by first | rfl | (simp [errW_none, errW_some] <;> rfl) | (simp [*, errW_none, errW_some] <;> rfl), by repeat (first | (with_reducible first | exact HB.out | apply below_alloc | apply pw_below_drewN | apply below_drew1 | refine below_set ?_ GE365.out) | exact HB.out)⟩
        ·rw [if_neg c30] at H
         have c30b0 : (t371 == 0) = false := beq_eq_false_iff_ne.mpr c30
         have c30b1 : (t371 != 0) = true := bne_iff_ne.mpr c30
         obtain rfl := Option.some.inj H
         have p377 : 0 ≤ (t369 : Int) := of_decide_eq_true (by first | (with_reducible assumption) | assumption)
         have q377 : t369 < (t366.length : Int) := of_decide_eq_true (by first | (with_reducible assumption) | assumption)
         obtain ⟨ad377, e377, hx377_0, hx377_1, hx377_2⟩ := at_T39 (Kd.R_reads' HO_5.out).2.2 t369 p377 q377
         cases e377
         replace p377 := eq_true p377
         replace q377 := eq_true q377
         go_wp2
         repeat (go_quiet (fail); try go_wp2)
         go_ret
         exact ⟨by first | rfl | (simp [errW_none, errW_some] <;> rfl) | (simp [*, errW_none, errW_some] <;> rfl), by repeat (first | (with_reducible first | exact HB.out | apply below_alloc | apply pw_below_drewN | apply below_drew1 | refine below_set ?_ GE365.out) | exact HB.out)⟩
       ·rw [if_neg c29] at H
        have c29b0 : (t372 == 0) = false := beq_eq_false_iff_ne.mpr c29
        have c29b1 : (t372 != 0) = true := bne_iff_ne.mpr c29
        obtain rfl := Option.some.inj H
        have p377 : 0 ≤ (t369 : Int) := of_decide_eq_true (by first | (with_reducible assumption) | assumption)
        have q377 : t369 < (t366.length : Int) := of_decide_eq_true (by first | (with_reducible assumption) | assumption)
        obtain ⟨ad377, e377, hx377_0, hx377_1, hx377_2⟩ := at_T39 (Kd.R_reads' HO_5.out).2.2 t369 p377 q377
        cases e377
        replace p377 := eq_true p377
        replace q377 := eq_true q377
        go_wp2
        repeat (go_quiet (fail); try go_wp2)
        go_ret
        exact ⟨by first | rfl | (simp [errW_none, errW_some] <;> rfl) | (simp [*, errW_none, errW_some] <;> rfl), by repeat (first | (with_reducible first | exact HB.out | apply below_alloc | apply pw_below_drewN | apply below_drew1 | refine below_set ?_ GE365.out) | exact HB.out)⟩
      ·rw [if_neg c28] at H
       have c28b0 : decide (((rd_T39 t366 t369).f0) < 4) = false := decide_eq_false c28
       clear c28
       replace H := Option.bind_eq_some_iff.mp H
       obtain ⟨⟨t380, t381⟩, A330, H⟩ := H
       replace H : ((loops_Depth.f kj8 t366 ((rd_T39 t366 t369).f2)).bind fun bt383 => (if t372 = 0 then (if t381 = 0 then (if bt383.2 = 0 then (if t371 = (wrap64 (1 + (mx t380 bt383.1))) then (if t371 < (t366.length : Int) then ((tickinglaw06_awake.f kj8).bind fun t385 => (some t385)) else (some false)) else (some false)) else (some false)) else (some false)) else (if t381 = 0 then (if bt383.2 = 0 then (some false) else ((tickinglaw06_awake.f kj8).bind fun t386 => (some t386))) else ((tickinglaw06_awake.f kj8).bind fun t387 => (some t387))))) = some r := H
       have A33 := Aside0.mk A330
       clear A330
       replace H := Option.bind_eq_some_iff.mp H
       obtain ⟨⟨t383, t384⟩, A340, H⟩ := H
       replace H : (if t372 = 0 then (if t381 = 0 then (if t384 = 0 then (if t371 = (wrap64 (1 + (mx t380 t383))) then (if t371 < (t366.length : Int) then ((tickinglaw06_awake.f kj8).bind fun t385 => (some t385)) else (some false)) else (some false)) else (some false)) else (some false)) else (if t381 = 0 then (if t384 = 0 then (some false) else ((tickinglaw06_awake.f kj8).bind fun t386 => (some t386))) else ((tickinglaw06_awake.f kj8).bind fun t387 => (some t387)))) = some r := H
       have A34 := Aside0.mk A340
       clear A340
       by_cases c35 : t372 = 0
       ·rw [if_pos c35] at H
        have c35b0 : (t372 == 0) = true := beq_iff_eq.mpr c35
        have c35b1 : (t372 != 0) = false := bne_eq_false_iff_eq.mpr c35
        clear c35
        by_cases c36 : t381 = 0
        ·rw [if_pos c36] at H
         have c36b0 : (t381 == 0) = true := beq_iff_eq.mpr c36
         have c36b1 : (t381 != 0) = false := bne_eq_false_iff_eq.mpr c36
         clear c36
         by_cases c37 : t384 = 0
         ·rw [if_pos c37] at H
          have c37b0 : (t384 == 0) = true := beq_iff_eq.mpr c37
          have c37b1 : (t384 != 0) = false := bne_eq_false_iff_eq.mpr c37
          clear c37
          obtain ⟨ji38, hji38⟩ : ∃ j_ : Int, (mx t380 t383) = j_ := ⟨_, rfl⟩
          replace H : (if t371 = (wrap64 (1 + (ji38))) then (if t371 < (t366.length : Int) then ((tickinglaw06_awake.f kj8).bind fun t385 => (some t385)) else (some false)) else (some false)) = some r := by first | (rw [hji38] at H; exact H) | (simp only [hji38] at H ⊢; exact H)
          (try rw [hji38] at A33)
          (try rw [hji38] at A34)
          have hji38_ : (if t380 < t383 then t383 else t380) = ji38 := hji38
          by_cases c39 : t371 = (wrap64 (1 + (ji38)))
          ·rw [if_pos c39] at H
           have c39b0 : (t371 == (wrap64 (1 + (ji38)))) = true := beq_iff_eq.mpr c39
           have c39b1 : (t371 != (wrap64 (1 + (ji38)))) = false := bne_eq_false_iff_eq.mpr c39
           clear c39
           by_cases c40 : t371 < (t366.length : Int)
           ·rw [if_pos c40] at H
            have c40b0 : decide (t371 < (t366.length : Int)) = true := decide_eq_true c40
            clear c40
            replace H := Option.bind_eq_some_iff.mp H
            obtain ⟨t385, A410, H⟩ := H
            replace H : (some t385) = some r := H
            have A41 := Aside0.mk A410
            clear A410
            obtain rfl := Option.some.inj H
            have p377 : 0 ≤ (t369 : Int) := of_decide_eq_true (by first | (with_reducible assumption) | assumption)
            have q377 : t369 < (t366.length : Int) := of_decide_eq_true (by first | (with_reducible assumption) | assumption)
            obtain ⟨ad377, e377, hx377_0, hx377_1, hx377_2⟩ := at_T39 (Kd.R_reads' HO_5.out).2.2 t369 p377 q377
            cases e377
            replace p377 := eq_true p377
            replace q377 := eq_true q377
            have p379 : 0 ≤ (t369 : Int) := of_decide_eq_true (by first | (with_reducible assumption) | assumption)
            have q379 : t369 < (t366.length : Int) := of_decide_eq_true (by first | (with_reducible assumption) | assumption)
            obtain ⟨ad379, e379, hx379_0, hx379_1, hx379_2⟩ := at_T39 (Kd.R_reads' HO_5.out).2.2 t369 p379 q379
            obtain rfl : ad377 = ad379 := (by injection e379)
            replace p379 := eq_true p379
            replace q379 := eq_true q379
            go_wp2_with (first | (go_at_call 28; (with_reducible refine (loops_Depth.calls kj8 _ _ t366 ((rd_T39 t366 t369).f1) t380 t381 _ ?side1 ?side2 A33.out).mono ?_); (case side1 => repeat (first | exact (Kd.R_reads' HO_5.out).2.2 | (with_reducible refine Kd.C_alloc ?_ _) | (with_reducible refine Kd.C_drewN ?_ _) | (with_reducible refine Kd.C_drew ?_))); (case side2 => exact (Kd.R_reads' HO_5.out).2.1); rintro e w42 ⟨rfl, hb⟩; have n0_ := Aside0.mk (Kd.R_below (by (with_reducible repeat (first | apply Kd.R_alloc | apply Kd.R_drewN | apply Kd.R_drew)); exact HO_5.out) hb); have n1_ := Aside0.mk (blk_below (g := gb365) (o := .cells #[.int .i64 a1_0, .int .i64 a1_1] 23 (0, 0)) (by (with_reducible repeat (first | refine blk_drewN ?_ _ | refine blk_drew ?_ | refine blk_alloc ?_ _)); exact BK365.out) hb); have n2_ := Aside0.mk (below_step (by repeat (first | (with_reducible first | exact HB.out | apply below_alloc | apply pw_below_drewN | apply below_drew1 | refine below_set ?_ GE365.out) | exact HB.out)) hb); clear HO_5; clear BK365; clear HB; have HO_5 := n0_; have BK365 := n1_; have HB := n2_; clear n0_ n1_ n2_; (try clear hb); (try clear hb2); (try clear hk); (try clear hi); have p382 : 0 ≤ (t369 : Int) := of_decide_eq_true (by first | (with_reducible assumption) | assumption); have q382 : t369 < (t366.length : Int) := of_decide_eq_true (by first | (with_reducible assumption) | assumption); obtain ⟨ad382, e382, hx382_0, hx382_1, hx382_2⟩ := at_T39 (Kd.R_reads' HO_5.out).2.2 t369 p382 q382; obtain rfl : ad377 = ad382 := (by injection e382); replace p382 := eq_true p382; replace q382 := eq_true q382) | (go_at_call 28; (with_reducible refine (loops_Depth.calls kj8 _ _ t366 ((rd_T39 t366 t369).f2) t383 t384 _ ?side1 ?side2 A34.out).mono ?_); (case side1 => repeat (first | exact (Kd.R_reads' HO_5.out).2.2 | (with_reducible refine Kd.C_alloc ?_ _) | (with_reducible refine Kd.C_drewN ?_ _) | (with_reducible refine Kd.C_drew ?_))); (case side2 => exact (Kd.R_reads' HO_5.out).2.1); rintro e w43 ⟨rfl, hb⟩; have n0_ := Aside0.mk (Kd.R_below (by (with_reducible repeat (first | apply Kd.R_alloc | apply Kd.R_drewN | apply Kd.R_drew)); exact HO_5.out) hb); have n1_ := Aside0.mk (blk_below (g := gb365) (o := .cells #[.int .i64 a1_0, .int .i64 a1_1] 23 (0, 0)) (by (with_reducible repeat (first | refine blk_drewN ?_ _ | refine blk_drew ?_ | refine blk_alloc ?_ _)); exact BK365.out) hb); have n2_ := Aside0.mk (below_step (by repeat (first | (with_reducible first | exact HB.out | apply below_alloc | apply pw_below_drewN | apply below_drew1 | refine below_set ?_ GE365.out) | exact HB.out)) hb); clear HO_5; clear BK365; clear HB; have HO_5 := n0_; have BK365 := n1_; have HB := n2_; clear n0_ n1_ n2_; (try clear hb); (try clear hb2); (try clear hk); (try clear hi)) | (go_at_call 19; (with_reducible refine (tickinglaw06_awake.calls kj8  t385 _ A41.out).mono ?_); rintro e w44 ⟨rfl, hb⟩; have n0_ := Aside0.mk (Kd.R_below (by (with_reducible repeat (first | apply Kd.R_alloc | apply Kd.R_drewN | apply Kd.R_drew)); exact HO_5.out) hb); have n1_ := Aside0.mk (blk_below (g := gb365) (o := .cells #[.int .i64 a1_0, .int .i64 a1_1] 23 (0, 0)) (by (with_reducible repeat (first | refine blk_drewN ?_ _ | refine blk_drew ?_ | refine blk_alloc ?_ _)); exact BK365.out) hb); have n2_ := Aside0.mk (below_step (by repeat (first | (with_reducible first | exact HB.out | apply below_alloc | apply pw_below_drewN | apply below_drew1 | refine below_set ?_ GE365.out) | exact HB.out)) hb); clear HO_5; clear BK365; clear HB; have HO_5 := n0_; have BK365 := n1_; have HB := n2_; clear n0_ n1_ n2_; (try clear hb); (try clear hb2); (try clear hk); (try clear hi)))
            repeat (go_quiet (first | (go_at_call 28; (with_reducible refine (loops_Depth.calls kj8 _ _ t366 ((rd_T39 t366 t369).f1) t380 t381 _ ?side1 ?side2 A33.out).mono ?_); (case side1 => repeat (first | exact (Kd.R_reads' HO_5.out).2.2 | (with_reducible refine Kd.C_alloc ?_ _) | (with_reducible refine Kd.C_drewN ?_ _) | (with_reducible refine Kd.C_drew ?_))); (case side2 => exact (Kd.R_reads' HO_5.out).2.1); rintro e w42 ⟨rfl, hb⟩; have n0_ := Aside0.mk (Kd.R_below (by (with_reducible repeat (first | apply Kd.R_alloc | apply Kd.R_drewN | apply Kd.R_drew)); exact HO_5.out) hb); have n1_ := Aside0.mk (blk_below (g := gb365) (o := .cells #[.int .i64 a1_0, .int .i64 a1_1] 23 (0, 0)) (by (with_reducible repeat (first | refine blk_drewN ?_ _ | refine blk_drew ?_ | refine blk_alloc ?_ _)); exact BK365.out) hb); have n2_ := Aside0.mk (below_step (by repeat (first | (with_reducible first | exact HB.out | apply below_alloc | apply pw_below_drewN | apply below_drew1 | refine below_set ?_ GE365.out) | exact HB.out)) hb); clear HO_5; clear BK365; clear HB; have HO_5 := n0_; have BK365 := n1_; have HB := n2_; clear n0_ n1_ n2_; (try clear hb); (try clear hb2); (try clear hk); (try clear hi); have p382 : 0 ≤ (t369 : Int) := of_decide_eq_true (by first | (with_reducible assumption) | assumption); have q382 : t369 < (t366.length : Int) := of_decide_eq_true (by first | (with_reducible assumption) | assumption); obtain ⟨ad382, e382, hx382_0, hx382_1, hx382_2⟩ := at_T39 (Kd.R_reads' HO_5.out).2.2 t369 p382 q382; obtain rfl : ad377 = ad382 := (by injection e382); replace p382 := eq_true p382; replace q382 := eq_true q382) | (go_at_call 28; (with_reducible refine (loops_Depth.calls kj8 _ _ t366 ((rd_T39 t366 t369).f2) t383 t384 _ ?side1 ?side2 A34.out).mono ?_); (case side1 => repeat (first | exact (Kd.R_reads' HO_5.out).2.2 | (with_reducible refine Kd.C_alloc ?_ _) | (with_reducible refine Kd.C_drewN ?_ _) | (with_reducible refine Kd.C_drew ?_))); (case side2 => exact (Kd.R_reads' HO_5.out).2.1); rintro e w43 ⟨rfl, hb⟩; have n0_ := Aside0.mk (Kd.R_below (by (with_reducible repeat (first | apply Kd.R_alloc | apply Kd.R_drewN | apply Kd.R_drew)); exact HO_5.out) hb); have n1_ := Aside0.mk (blk_below (g := gb365) (o := .cells #[.int .i64 a1_0, .int .i64 a1_1] 23 (0, 0)) (by (with_reducible repeat (first | refine blk_drewN ?_ _ | refine blk_drew ?_ | refine blk_alloc ?_ _)); exact BK365.out) hb); have n2_ := Aside0.mk (below_step (by repeat (first | (with_reducible first | exact HB.out | apply below_alloc | apply pw_below_drewN | apply below_drew1 | refine below_set ?_ GE365.out) | exact HB.out)) hb); clear HO_5; clear BK365; clear HB; have HO_5 := n0_; have BK365 := n1_; have HB := n2_; clear n0_ n1_ n2_; (try clear hb); (try clear hb2); (try clear hk); (try clear hi)) | (go_at_call 19; (with_reducible refine (tickinglaw06_awake.calls kj8  t385 _ A41.out).mono ?_); rintro e w44 ⟨rfl, hb⟩; have n0_ := Aside0.mk (Kd.R_below (by (with_reducible repeat (first | apply Kd.R_alloc | apply Kd.R_drewN | apply Kd.R_drew)); exact HO_5.out) hb); have n1_ := Aside0.mk (blk_below (g := gb365) (o := .cells #[.int .i64 a1_0, .int .i64 a1_1] 23 (0, 0)) (by (with_reducible repeat (first | refine blk_drewN ?_ _ | refine blk_drew ?_ | refine blk_alloc ?_ _)); exact BK365.out) hb); have n2_ := Aside0.mk (below_step (by repeat (first | (with_reducible first | exact HB.out | apply below_alloc | apply pw_below_drewN | apply below_drew1 | refine below_set ?_ GE365.out) | exact HB.out)) hb); clear HO_5; clear BK365; clear HB; have HO_5 := n0_; have BK365 := n1_; have HB := n2_; clear n0_ n1_ n2_; (try clear hb); (try clear hb2); (try clear hk); (try clear hi))); try go_wp2_with (first | (go_at_call 28; (with_reducible refine (loops_Depth.calls kj8 _ _ t366 ((rd_T39 t366 t369).f1) t380 t381 _ ?side1 ?side2 A33.out).mono ?_); (case side1 => repeat (first | exact (Kd.R_reads' HO_5.out).2.2 | (with_reducible refine Kd.C_alloc ?_ _) | (with_reducible refine Kd.C_drewN ?_ _) | (with_reducible refine Kd.C_drew ?_))); (case side2 => exact (Kd.R_reads' HO_5.out).2.1); rintro e w42 ⟨rfl, hb⟩; have n0_ := Aside0.mk (Kd.R_below (by (with_reducible repeat (first | apply Kd.R_alloc | apply Kd.R_drewN | apply Kd.R_drew)); exact HO_5.out) hb); have n1_ := Aside0.mk (blk_below (g := gb365) (o := .cells #[.int .i64 a1_0, .int .i64 a1_1] 23 (0, 0)) (by (with_reducible repeat (first | refine blk_drewN ?_ _ | refine blk_drew ?_ | refine blk_alloc ?_ _)); exact BK365.out) hb); have n2_ := Aside0.mk (below_step (by repeat (first | (with_reducible first | exact HB.out | apply below_alloc | apply pw_below_drewN | apply below_drew1 | refine below_set ?_ GE365.out) | exact HB.out)) hb); clear HO_5; clear BK365; clear HB; have HO_5 := n0_; have BK365 := n1_; have HB := n2_; clear n0_ n1_ n2_; (try clear hb); (try clear hb2); (try clear hk); (try clear hi); have p382 : 0 ≤ (t369 : Int) := of_decide_eq_true (by first | (with_reducible assumption) | assumption); have q382 : t369 < (t366.length : Int) := of_decide_eq_true (by first | (with_reducible assumption) | assumption); obtain ⟨ad382, e382, hx382_0, hx382_1, hx382_2⟩ := at_T39 (Kd.R_reads' HO_5.out).2.2 t369 p382 q382; obtain rfl : ad377 = ad382 := (by injection e382); replace p382 := eq_true p382; replace q382 := eq_true q382) | (go_at_call 28; (with_reducible refine (loops_Depth.calls kj8 _ _ t366 ((rd_T39 t366 t369).f2) t383 t384 _ ?side1 ?side2 A34.out).mono ?_); (case side1 => repeat (first | exact (Kd.R_reads' HO_5.out).2.2 | (with_reducible refine Kd.C_alloc ?_ _) | (with_reducible refine Kd.C_drewN ?_ _) | (with_reducible refine Kd.C_drew ?_))); (case side2 => exact (Kd.R_reads' HO_5.out).2.1); rintro e w43 ⟨rfl, hb⟩; have n0_ := Aside0.mk (Kd.R_below (by (with_reducible repeat (first | apply Kd.R_alloc | apply Kd.R_drewN | apply Kd.R_drew)); exact HO_5.out) hb); have n1_ := Aside0.mk (blk_below (g := gb365) (o := .cells #[.int .i64 a1_0, .int .i64 a1_1] 23 (0, 0)) (by (with_reducible repeat (first | refine blk_drewN ?_ _ | refine blk_drew ?_ | refine blk_alloc ?_ _)); exact BK365.out) hb); have n2_ := Aside0.mk (below_step (by repeat (first | (with_reducible first | exact HB.out | apply below_alloc | apply pw_below_drewN | apply below_drew1 | refine below_set ?_ GE365.out) | exact HB.out)) hb); clear HO_5; clear BK365; clear HB; have HO_5 := n0_; have BK365 := n1_; have HB := n2_; clear n0_ n1_ n2_; (try clear hb); (try clear hb2); (try clear hk); (try clear hi)) | (go_at_call 19; (with_reducible refine (tickinglaw06_awake.calls kj8  t385 _ A41.out).mono ?_); rintro e w44 ⟨rfl, hb⟩; have n0_ := Aside0.mk (Kd.R_below (by (with_reducible repeat (first | apply Kd.R_alloc | apply Kd.R_drewN | apply Kd.R_drew)); exact HO_5.out) hb); have n1_ := Aside0.mk (blk_below (g := gb365) (o := .cells #[.int .i64 a1_0, .int .i64 a1_1] 23 (0, 0)) (by (with_reducible repeat (first | refine blk_drewN ?_ _ | refine blk_drew ?_ | refine blk_alloc ?_ _)); exact BK365.out) hb); have n2_ := Aside0.mk (below_step (by repeat (first | (with_reducible first | exact HB.out | apply below_alloc | apply pw_below_drewN | apply below_drew1 | refine below_set ?_ GE365.out) | exact HB.out)) hb); clear HO_5; clear BK365; clear HB; have HO_5 := n0_; have BK365 := n1_; have HB := n2_; clear n0_ n1_ n2_; (try clear hb); (try clear hb2); (try clear hk); (try clear hi))))
            go_ret
            exact ⟨by first | rfl | (simp [errW_none, errW_some] <;> rfl) | (simp only [← hji38]; first | rfl | (simp [errW_none, errW_some] <;> rfl)) | (simp [*, errW_none, errW_some] <;> rfl), by repeat (first | (with_reducible first | exact HB.out | apply below_alloc | apply pw_below_drewN | apply below_drew1 | refine below_set ?_ GE365.out) | exact HB.out)⟩
           ·rw [if_neg c40] at H
            have c40b0 : decide (t371 < (t366.length : Int)) = false := decide_eq_false c40
            clear c40
            obtain rfl := Option.some.inj H
            have p377 : 0 ≤ (t369 : Int) := of_decide_eq_true (by first | (with_reducible assumption) | assumption)
            have q377 : t369 < (t366.length : Int) := of_decide_eq_true (by first | (with_reducible assumption) | assumption)
            obtain ⟨ad377, e377, hx377_0, hx377_1, hx377_2⟩ := at_T39 (Kd.R_reads' HO_5.out).2.2 t369 p377 q377
            cases e377
            replace p377 := eq_true p377
            replace q377 := eq_true q377
            have p379 : 0 ≤ (t369 : Int) := of_decide_eq_true (by first | (with_reducible assumption) | assumption)
            have q379 : t369 < (t366.length : Int) := of_decide_eq_true (by first | (with_reducible assumption) | assumption)
            obtain ⟨ad379, e379, hx379_0, hx379_1, hx379_2⟩ := at_T39 (Kd.R_reads' HO_5.out).2.2 t369 p379 q379
            obtain rfl : ad377 = ad379 := (by injection e379)
            replace p379 := eq_true p379
            replace q379 := eq_true q379
            go_wp2_with (first | (go_at_call 28; (with_reducible refine (loops_Depth.calls kj8 _ _ t366 ((rd_T39 t366 t369).f1) t380 t381 _ ?side1 ?side2 A33.out).mono ?_); (case side1 => repeat (first | exact (Kd.R_reads' HO_5.out).2.2 | (with_reducible refine Kd.C_alloc ?_ _) | (with_reducible refine Kd.C_drewN ?_ _) | (with_reducible refine Kd.C_drew ?_))); (case side2 => exact (Kd.R_reads' HO_5.out).2.1); rintro e w45 ⟨rfl, hb⟩; have n0_ := Aside0.mk (Kd.R_below (by (with_reducible repeat (first | apply Kd.R_alloc | apply Kd.R_drewN | apply Kd.R_drew)); exact HO_5.out) hb); have n1_ := Aside0.mk (blk_below (g := gb365) (o := .cells #[.int .i64 a1_0, .int .i64 a1_1] 23 (0, 0)) (by (with_reducible repeat (first | refine blk_drewN ?_ _ | refine blk_drew ?_ | refine blk_alloc ?_ _)); exact BK365.out) hb); have n2_ := Aside0.mk (below_step (by repeat (first | (with_reducible first | exact HB.out | apply below_alloc | apply pw_below_drewN | apply below_drew1 | refine below_set ?_ GE365.out) | exact HB.out)) hb); clear HO_5; clear BK365; clear HB; have HO_5 := n0_; have BK365 := n1_; have HB := n2_; clear n0_ n1_ n2_; (try clear hb); (try clear hb2); (try clear hk); (try clear hi); have p382 : 0 ≤ (t369 : Int) := of_decide_eq_true (by first | (with_reducible assumption) | assumption); have q382 : t369 < (t366.length : Int) := of_decide_eq_true (by first | (with_reducible assumption) | assumption); obtain ⟨ad382, e382, hx382_0, hx382_1, hx382_2⟩ := at_T39 (Kd.R_reads' HO_5.out).2.2 t369 p382 q382; obtain rfl : ad377 = ad382 := (by injection e382); replace p382 := eq_true p382; replace q382 := eq_true q382) | (go_at_call 28; (with_reducible refine (loops_Depth.calls kj8 _ _ t366 ((rd_T39 t366 t369).f2) t383 t384 _ ?side1 ?side2 A34.out).mono ?_); (case side1 => repeat (first | exact (Kd.R_reads' HO_5.out).2.2 | (with_reducible refine Kd.C_alloc ?_ _) | (with_reducible refine Kd.C_drewN ?_ _) | (with_reducible refine Kd.C_drew ?_))); (case side2 => exact (Kd.R_reads' HO_5.out).2.1); rintro e w46 ⟨rfl, hb⟩; have n0_ := Aside0.mk (Kd.R_below (by (with_reducible repeat (first | apply Kd.R_alloc | apply Kd.R_drewN | apply Kd.R_drew)); exact HO_5.out) hb); have n1_ := Aside0.mk (blk_below (g := gb365) (o := .cells #[.int .i64 a1_0, .int .i64 a1_1] 23 (0, 0)) (by (with_reducible repeat (first | refine blk_drewN ?_ _ | refine blk_drew ?_ | refine blk_alloc ?_ _)); exact BK365.out) hb); have n2_ := Aside0.mk (below_step (by repeat (first | (with_reducible first | exact HB.out | apply below_alloc | apply pw_below_drewN | apply below_drew1 | refine below_set ?_ GE365.out) | exact HB.out)) hb); clear HO_5; clear BK365; clear HB; have HO_5 := n0_; have BK365 := n1_; have HB := n2_; clear n0_ n1_ n2_; (try clear hb); (try clear hb2); (try clear hk); (try clear hi)))
            repeat (go_quiet (first | (go_at_call 28; (with_reducible refine (loops_Depth.calls kj8 _ _ t366 ((rd_T39 t366 t369).f1) t380 t381 _ ?side1 ?side2 A33.out).mono ?_); (case side1 => repeat (first | exact (Kd.R_reads' HO_5.out).2.2 | (with_reducible refine Kd.C_alloc ?_ _) | (with_reducible refine Kd.C_drewN ?_ _) | (with_reducible refine Kd.C_drew ?_))); (case side2 => exact (Kd.R_reads' HO_5.out).2.1); rintro e w45 ⟨rfl, hb⟩; have n0_ := Aside0.mk (Kd.R_below (by (with_reducible repeat (first | apply Kd.R_alloc | apply Kd.R_drewN | apply Kd.R_drew)); exact HO_5.out) hb); have n1_ := Aside0.mk (blk_below (g := gb365) (o := .cells #[.int .i64 a1_0, .int .i64 a1_1] 23 (0, 0)) (by (with_reducible repeat (first | refine blk_drewN ?_ _ | refine blk_drew ?_ | refine blk_alloc ?_ _)); exact BK365.out) hb); have n2_ := Aside0.mk (below_step (by repeat (first | (with_reducible first | exact HB.out | apply below_alloc | apply pw_below_drewN | apply below_drew1 | refine below_set ?_ GE365.out) | exact HB.out)) hb); clear HO_5; clear BK365; clear HB; have HO_5 := n0_; have BK365 := n1_; have HB := n2_; clear n0_ n1_ n2_; (try clear hb); (try clear hb2); (try clear hk); (try clear hi); have p382 : 0 ≤ (t369 : Int) := of_decide_eq_true (by first | (with_reducible assumption) | assumption); have q382 : t369 < (t366.length : Int) := of_decide_eq_true (by first | (with_reducible assumption) | assumption); obtain ⟨ad382, e382, hx382_0, hx382_1, hx382_2⟩ := at_T39 (Kd.R_reads' HO_5.out).2.2 t369 p382 q382; obtain rfl : ad377 = ad382 := (by injection e382); replace p382 := eq_true p382; replace q382 := eq_true q382) | (go_at_call 28; (with_reducible refine (loops_Depth.calls kj8 _ _ t366 ((rd_T39 t366 t369).f2) t383 t384 _ ?side1 ?side2 A34.out).mono ?_); (case side1 => repeat (first | exact (Kd.R_reads' HO_5.out).2.2 | (with_reducible refine Kd.C_alloc ?_ _) | (with_reducible refine Kd.C_drewN ?_ _) | (with_reducible refine Kd.C_drew ?_))); (case side2 => exact (Kd.R_reads' HO_5.out).2.1); rintro e w46 ⟨rfl, hb⟩; have n0_ := Aside0.mk (Kd.R_below (by (with_reducible repeat (first | apply Kd.R_alloc | apply Kd.R_drewN | apply Kd.R_drew)); exact HO_5.out) hb); have n1_ := Aside0.mk (blk_below (g := gb365) (o := .cells #[.int .i64 a1_0, .int .i64 a1_1] 23 (0, 0)) (by (with_reducible repeat (first | refine blk_drewN ?_ _ | refine blk_drew ?_ | refine blk_alloc ?_ _)); exact BK365.out) hb); have n2_ := Aside0.mk (below_step (by repeat (first | (with_reducible first | exact HB.out | apply below_alloc | apply pw_below_drewN | apply below_drew1 | refine below_set ?_ GE365.out) | exact HB.out)) hb); clear HO_5; clear BK365; clear HB; have HO_5 := n0_; have BK365 := n1_; have HB := n2_; clear n0_ n1_ n2_; (try clear hb); (try clear hb2); (try clear hk); (try clear hi))); try go_wp2_with (first | (go_at_call 28; (with_reducible refine (loops_Depth.calls kj8 _ _ t366 ((rd_T39 t366 t369).f1) t380 t381 _ ?side1 ?side2 A33.out).mono ?_); (case side1 => repeat (first | exact (Kd.R_reads' HO_5.out).2.2 | (with_reducible refine Kd.C_alloc ?_ _) | (with_reducible refine Kd.C_drewN ?_ _) | (with_reducible refine Kd.C_drew ?_))); (case side2 => exact (Kd.R_reads' HO_5.out).2.1); rintro e w45 ⟨rfl, hb⟩; have n0_ := Aside0.mk (Kd.R_below (by (with_reducible repeat (first | apply Kd.R_alloc | apply Kd.R_drewN | apply Kd.R_drew)); exact HO_5.out) hb); have n1_ := Aside0.mk (blk_below (g := gb365) (o := .cells #[.int .i64 a1_0, .int .i64 a1_1] 23 (0, 0)) (by (with_reducible repeat (first | refine blk_drewN ?_ _ | refine blk_drew ?_ | refine blk_alloc ?_ _)); exact BK365.out) hb); have n2_ := Aside0.mk (below_step (by repeat (first | (with_reducible first | exact HB.out | apply below_alloc | apply pw_below_drewN | apply below_drew1 | refine below_set ?_ GE365.out) | exact HB.out)) hb); clear HO_5; clear BK365; clear HB; have HO_5 := n0_; have BK365 := n1_; have HB := n2_; clear n0_ n1_ n2_; (try clear hb); (try clear hb2); (try clear hk); (try clear hi); have p382 : 0 ≤ (t369 : Int) := of_decide_eq_true (by first | (with_reducible assumption) | assumption); have q382 : t369 < (t366.length : Int) := of_decide_eq_true (by first | (with_reducible assumption) | assumption); obtain ⟨ad382, e382, hx382_0, hx382_1, hx382_2⟩ := at_T39 (Kd.R_reads' HO_5.out).2.2 t369 p382 q382; obtain rfl : ad377 = ad382 := (by injection e382); replace p382 := eq_true p382; replace q382 := eq_true q382) | (go_at_call 28; (with_reducible refine (loops_Depth.calls kj8 _ _ t366 ((rd_T39 t366 t369).f2) t383 t384 _ ?side1 ?side2 A34.out).mono ?_); (case side1 => repeat (first | exact (Kd.R_reads' HO_5.out).2.2 | (with_reducible refine Kd.C_alloc ?_ _) | (with_reducible refine Kd.C_drewN ?_ _) | (with_reducible refine Kd.C_drew ?_))); (case side2 => exact (Kd.R_reads' HO_5.out).2.1); rintro e w46 ⟨rfl, hb⟩; have n0_ := Aside0.mk (Kd.R_below (by (with_reducible repeat (first | apply Kd.R_alloc | apply Kd.R_drewN | apply Kd.R_drew)); exact HO_5.out) hb); have n1_ := Aside0.mk (blk_below (g := gb365) (o := .cells #[.int .i64 a1_0, .int .i64 a1_1] 23 (0, 0)) (by (with_reducible repeat (first | refine blk_drewN ?_ _ | refine blk_drew ?_ | refine blk_alloc ?_ _)); exact BK365.out) hb); have n2_ := Aside0.mk (below_step (by repeat (first | (with_reducible first | exact HB.out | apply below_alloc | apply pw_below_drewN | apply below_drew1 | refine below_set ?_ GE365.out) | exact HB.out)) hb); clear HO_5; clear BK365; clear HB; have HO_5 := n0_; have BK365 := n1_; have HB := n2_; clear n0_ n1_ n2_; (try clear hb); (try clear hb2); (try clear hk); (try clear hi))))
            go_ret
            exact ⟨by first | rfl | (simp [errW_none, errW_some] <;> rfl) | (simp only [← hji38]; first | rfl | (simp [errW_none, errW_some] <;> rfl)) | (simp [*, errW_none, errW_some] <;> rfl), by repeat (first | (with_reducible first | exact HB.out | apply below_alloc | apply pw_below_drewN | apply below_drew1 | refine below_set ?_ GE365.out) | exact HB.out)⟩
          ·rw [if_neg c39] at H
           have c39b0 : (t371 == (wrap64 (1 + (ji38)))) = false := beq_eq_false_iff_ne.mpr c39
           have c39b1 : (t371 != (wrap64 (1 + (ji38)))) = true := bne_iff_ne.mpr c39
           obtain rfl := Option.some.inj H
           have p377 : 0 ≤ (t369 : Int) := of_decide_eq_true (by first | (with_reducible assumption) | assumption)
           have q377 : t369 < (t366.length : Int) := of_decide_eq_true (by first | (with_reducible assumption) | assumption)
           obtain ⟨ad377, e377, hx377_0, hx377_1, hx377_2⟩ := at_T39 (Kd.R_reads' HO_5.out).2.2 t369 p377 q377
           cases e377
           replace p377 := eq_true p377
           replace q377 := eq_true q377
           have p379 : 0 ≤ (t369 : Int) := of_decide_eq_true (by first | (with_reducible assumption) | assumption)
           have q379 : t369 < (t366.length : Int) := of_decide_eq_true (by first | (with_reducible assumption) | assumption)
           obtain ⟨ad379, e379, hx379_0, hx379_1, hx379_2⟩ := at_T39 (Kd.R_reads' HO_5.out).2.2 t369 p379 q379
           obtain rfl : ad377 = ad379 := (by injection e379)
           replace p379 := eq_true p379
           replace q379 := eq_true q379
           go_wp2_with (first | (go_at_call 28; (with_reducible refine (loops_Depth.calls kj8 _ _ t366 ((rd_T39 t366 t369).f1) t380 t381 _ ?side1 ?side2 A33.out).mono ?_); (case side1 => repeat (first | exact (Kd.R_reads' HO_5.out).2.2 | (with_reducible refine Kd.C_alloc ?_ _) | (with_reducible refine Kd.C_drewN ?_ _) | (with_reducible refine Kd.C_drew ?_))); (case side2 => exact (Kd.R_reads' HO_5.out).2.1); rintro e w47 ⟨rfl, hb⟩; have n0_ := Aside0.mk (Kd.R_below (by (with_reducible repeat (first | apply Kd.R_alloc | apply Kd.R_drewN | apply Kd.R_drew)); exact HO_5.out) hb); have n1_ := Aside0.mk (blk_below (g := gb365) (o := .cells #[.int .i64 a1_0, .int .i64 a1_1] 23 (0, 0)) (by (with_reducible repeat (first | refine blk_drewN ?_ _ | refine blk_drew ?_ | refine blk_alloc ?_ _)); exact BK365.out) hb); have n2_ := Aside0.mk (below_step (by repeat (first | (with_reducible first | exact HB.out | apply below_alloc | apply pw_below_drewN | apply below_drew1 | refine below_set ?_ GE365.out) | exact HB.out)) hb); clear HO_5; clear BK365; clear HB; have HO_5 := n0_; have BK365 := n1_; have HB := n2_; clear n0_ n1_ n2_; (try clear hb); (try clear hb2); (try clear hk); (try clear hi); have p382 : 0 ≤ (t369 : Int) := of_decide_eq_true (by first | (with_reducible assumption) | assumption); have q382 : t369 < (t366.length : Int) := of_decide_eq_true (by first | (with_reducible assumption) | assumption); obtain ⟨ad382, e382, hx382_0, hx382_1, hx382_2⟩ := at_T39 (Kd.R_reads' HO_5.out).2.2 t369 p382 q382; obtain rfl : ad377 = ad382 := (by injection e382); replace p382 := eq_true p382; replace q382 := eq_true q382) | (go_at_call 28; (with_reducible refine (loops_Depth.calls kj8 _ _ t366 ((rd_T39 t366 t369).f2) t383 t384 _ ?side1 ?side2 A34.out).mono ?_); (case side1 => repeat (first | exact (Kd.R_reads' HO_5.out).2.2 | (with_reducible refine Kd.C_alloc ?_ _) | (with_reducible refine Kd.C_drewN ?_ _) | (with_reducible refine Kd.C_drew ?_))); (case side2 => exact (Kd.R_reads' HO_5.out).2.1); rintro e w48 ⟨rfl, hb⟩; have n0_ := Aside0.mk (Kd.R_below (by (with_reducible repeat (first | apply Kd.R_alloc | apply Kd.R_drewN | apply Kd.R_drew)); exact HO_5.out) hb); have n1_ := Aside0.mk (blk_below (g := gb365) (o := .cells #[.int .i64 a1_0, .int .i64 a1_1] 23 (0, 0)) (by (with_reducible repeat (first | refine blk_drewN ?_ _ | refine blk_drew ?_ | refine blk_alloc ?_ _)); exact BK365.out) hb); have n2_ := Aside0.mk (below_step (by repeat (first | (with_reducible first | exact HB.out | apply below_alloc | apply pw_below_drewN | apply below_drew1 | refine below_set ?_ GE365.out) | exact HB.out)) hb); clear HO_5; clear BK365; clear HB; have HO_5 := n0_; have BK365 := n1_; have HB := n2_; clear n0_ n1_ n2_; (try clear hb); (try clear hb2); (try clear hk); (try clear hi)))
           repeat (go_quiet (first | (go_at_call 28; (with_reducible refine (loops_Depth.calls kj8 _ _ t366 ((rd_T39 t366 t369).f1) t380 t381 _ ?side1 ?side2 A33.out).mono ?_); (case side1 => repeat (first | exact (Kd.R_reads' HO_5.out).2.2 | (with_reducible refine Kd.C_alloc ?_ _) | (with_reducible refine Kd.C_drewN ?_ _) | (with_reducible refine Kd.C_drew ?_))); (case side2 => exact (Kd.R_reads' HO_5.out).2.1); rintro e w47 ⟨rfl, hb⟩; have n0_ := Aside0.mk (Kd.R_below (by (with_reducible repeat (first | apply Kd.R_alloc | apply Kd.R_drewN | apply Kd.R_drew)); exact HO_5.out) hb); have n1_ := Aside0.mk (blk_below (g := gb365) (o := .cells #[.int .i64 a1_0, .int .i64 a1_1] 23 (0, 0)) (by (with_reducible repeat (first | refine blk_drewN ?_ _ | refine blk_drew ?_ | refine blk_alloc ?_ _)); exact BK365.out) hb); have n2_ := Aside0.mk (below_step (by repeat (first | (with_reducible first | exact HB.out | apply below_alloc | apply pw_below_drewN | apply below_drew1 | refine below_set ?_ GE365.out) | exact HB.out)) hb); clear HO_5; clear BK365; clear HB; have HO_5 := n0_; have BK365 := n1_; have HB := n2_; clear n0_ n1_ n2_; (try clear hb); (try clear hb2); (try clear hk); (try clear hi); have p382 : 0 ≤ (t369 : Int) := of_decide_eq_true (by first | (with_reducible assumption) | assumption); have q382 : t369 < (t366.length : Int) := of_decide_eq_true (by first | (with_reducible assumption) | assumption); obtain ⟨ad382, e382, hx382_0, hx382_1, hx382_2⟩ := at_T39 (Kd.R_reads' HO_5.out).2.2 t369 p382 q382; obtain rfl : ad377 = ad382 := (by injection e382); replace p382 := eq_true p382; replace q382 := eq_true q382) | (go_at_call 28; (with_reducible refine (loops_Depth.calls kj8 _ _ t366 ((rd_T39 t366 t369).f2) t383 t384 _ ?side1 ?side2 A34.out).mono ?_); (case side1 => repeat (first | exact (Kd.R_reads' HO_5.out).2.2 | (with_reducible refine Kd.C_alloc ?_ _) | (with_reducible refine Kd.C_drewN ?_ _) | (with_reducible refine Kd.C_drew ?_))); (case side2 => exact (Kd.R_reads' HO_5.out).2.1); rintro e w48 ⟨rfl, hb⟩; have n0_ := Aside0.mk (Kd.R_below (by (with_reducible repeat (first | apply Kd.R_alloc | apply Kd.R_drewN | apply Kd.R_drew)); exact HO_5.out) hb); have n1_ := Aside0.mk (blk_below (g := gb365) (o := .cells #[.int .i64 a1_0, .int .i64 a1_1] 23 (0, 0)) (by (with_reducible repeat (first | refine blk_drewN ?_ _ | refine blk_drew ?_ | refine blk_alloc ?_ _)); exact BK365.out) hb); have n2_ := Aside0.mk (below_step (by repeat (first | (with_reducible first | exact HB.out | apply below_alloc | apply pw_below_drewN | apply below_drew1 | refine below_set ?_ GE365.out) | exact HB.out)) hb); clear HO_5; clear BK365; clear HB; have HO_5 := n0_; have BK365 := n1_; have HB := n2_; clear n0_ n1_ n2_; (try clear hb); (try clear hb2); (try clear hk); (try clear hi))); try go_wp2_with (first | (go_at_call 28; (with_reducible refine (loops_Depth.calls kj8 _ _ t366 ((rd_T39 t366 t369).f1) t380 t381 _ ?side1 ?side2 A33.out).mono ?_); (case side1 => repeat (first | exact (Kd.R_reads' HO_5.out).2.2 | (with_reducible refine Kd.C_alloc ?_ _) | (with_reducible refine Kd.C_drewN ?_ _) | (with_reducible refine Kd.C_drew ?_))); (case side2 => exact (Kd.R_reads' HO_5.out).2.1); rintro e w47 ⟨rfl, hb⟩; have n0_ := Aside0.mk (Kd.R_below (by (with_reducible repeat (first | apply Kd.R_alloc | apply Kd.R_drewN | apply Kd.R_drew)); exact HO_5.out) hb); have n1_ := Aside0.mk (blk_below (g := gb365) (o := .cells #[.int .i64 a1_0, .int .i64 a1_1] 23 (0, 0)) (by (with_reducible repeat (first | refine blk_drewN ?_ _ | refine blk_drew ?_ | refine blk_alloc ?_ _)); exact BK365.out) hb); have n2_ := Aside0.mk (below_step (by repeat (first | (with_reducible first | exact HB.out | apply below_alloc | apply pw_below_drewN | apply below_drew1 | refine below_set ?_ GE365.out) | exact HB.out)) hb); clear HO_5; clear BK365; clear HB; have HO_5 := n0_; have BK365 := n1_; have HB := n2_; clear n0_ n1_ n2_; (try clear hb); (try clear hb2); (try clear hk); (try clear hi); have p382 : 0 ≤ (t369 : Int) := of_decide_eq_true (by first | (with_reducible assumption) | assumption); have q382 : t369 < (t366.length : Int) := of_decide_eq_true (by first | (with_reducible assumption) | assumption); obtain ⟨ad382, e382, hx382_0, hx382_1, hx382_2⟩ := at_T39 (Kd.R_reads' HO_5.out).2.2 t369 p382 q382; obtain rfl : ad377 = ad382 := (by injection e382); replace p382 := eq_true p382; replace q382 := eq_true q382) | (go_at_call 28; (with_reducible refine (loops_Depth.calls kj8 _ _ t366 ((rd_T39 t366 t369).f2) t383 t384 _ ?side1 ?side2 A34.out).mono ?_); (case side1 => repeat (first | exact (Kd.R_reads' HO_5.out).2.2 | (with_reducible refine Kd.C_alloc ?_ _) | (with_reducible refine Kd.C_drewN ?_ _) | (with_reducible refine Kd.C_drew ?_))); (case side2 => exact (Kd.R_reads' HO_5.out).2.1); rintro e w48 ⟨rfl, hb⟩; have n0_ := Aside0.mk (Kd.R_below (by (with_reducible repeat (first | apply Kd.R_alloc | apply Kd.R_drewN | apply Kd.R_drew)); exact HO_5.out) hb); have n1_ := Aside0.mk (blk_below (g := gb365) (o := .cells #[.int .i64 a1_0, .int .i64 a1_1] 23 (0, 0)) (by (with_reducible repeat (first | refine blk_drewN ?_ _ | refine blk_drew ?_ | refine blk_alloc ?_ _)); exact BK365.out) hb); have n2_ := Aside0.mk (below_step (by repeat (first | (with_reducible first | exact HB.out | apply below_alloc | apply pw_below_drewN | apply below_drew1 | refine below_set ?_ GE365.out) | exact HB.out)) hb); clear HO_5; clear BK365; clear HB; have HO_5 := n0_; have BK365 := n1_; have HB := n2_; clear n0_ n1_ n2_; (try clear hb); (try clear hb2); (try clear hk); (try clear hi))))
           go_ret
           exact ⟨by first | rfl | (simp [errW_none, errW_some] <;> rfl) | (simp only [← hji38]; first | rfl | (simp [errW_none, errW_some] <;> rfl)) | (simp [*, errW_none, errW_some] <;> rfl), by repeat (first | (with_reducible first | exact HB.out | apply below_alloc | apply pw_below_drewN | apply below_drew1 | refine below_set ?_ GE365.out) | exact HB.out)⟩
         ·rw [if_neg c37] at H
          have c37b0 : (t384 == 0) = false := beq_eq_false_iff_ne.mpr c37
          have c37b1 : (t384 != 0) = true := bne_iff_ne.mpr c37
          obtain rfl := Option.some.inj H
          have p377 : 0 ≤ (t369 : Int) := of_decide_eq_true (by first | (with_reducible assumption) | assumption)
          have q377 : t369 < (t366.length : Int) := of_decide_eq_true (by first | (with_reducible assumption) | assumption)
          obtain ⟨ad377, e377, hx377_0, hx377_1, hx377_2⟩ := at_T39 (Kd.R_reads' HO_5.out).2.2 t369 p377 q377
          cases e377
          replace p377 := eq_true p377
          replace q377 := eq_true q377
          have p379 : 0 ≤ (t369 : Int) := of_decide_eq_true (by first | (with_reducible assumption) | assumption)
          have q379 : t369 < (t366.length : Int) := of_decide_eq_true (by first | (with_reducible assumption) | assumption)
          obtain ⟨ad379, e379, hx379_0, hx379_1, hx379_2⟩ := at_T39 (Kd.R_reads' HO_5.out).2.2 t369 p379 q379
          obtain rfl : ad377 = ad379 := (by injection e379)
          replace p379 := eq_true p379
          replace q379 := eq_true q379
          go_wp2_with (first | (go_at_call 28; (with_reducible refine (loops_Depth.calls kj8 _ _ t366 ((rd_T39 t366 t369).f1) t380 t381 _ ?side1 ?side2 A33.out).mono ?_); (case side1 => repeat (first | exact (Kd.R_reads' HO_5.out).2.2 | (with_reducible refine Kd.C_alloc ?_ _) | (with_reducible refine Kd.C_drewN ?_ _) | (with_reducible refine Kd.C_drew ?_))); (case side2 => exact (Kd.R_reads' HO_5.out).2.1); rintro e w49 ⟨rfl, hb⟩; have n0_ := Aside0.mk (Kd.R_below (by (with_reducible repeat (first | apply Kd.R_alloc | apply Kd.R_drewN | apply Kd.R_drew)); exact HO_5.out) hb); have n1_ := Aside0.mk (blk_below (g := gb365) (o := .cells #[.int .i64 a1_0, .int .i64 a1_1] 23 (0, 0)) (by (with_reducible repeat (first | refine blk_drewN ?_ _ | refine blk_drew ?_ | refine blk_alloc ?_ _)); exact BK365.out) hb); have n2_ := Aside0.mk (below_step (by repeat (first | (with_reducible first | exact HB.out | apply below_alloc | apply pw_below_drewN | apply below_drew1 | refine below_set ?_ GE365.out) | exact HB.out)) hb); clear HO_5; clear BK365; clear HB; have HO_5 := n0_; have BK365 := n1_; have HB := n2_; clear n0_ n1_ n2_; (try clear hb); (try clear hb2); (try clear hk); (try clear hi); have p382 : 0 ≤ (t369 : Int) := of_decide_eq_true (by first | (with_reducible assumption) | assumption); have q382 : t369 < (t366.length : Int) := of_decide_eq_true (by first | (with_reducible assumption) | assumption); obtain ⟨ad382, e382, hx382_0, hx382_1, hx382_2⟩ := at_T39 (Kd.R_reads' HO_5.out).2.2 t369 p382 q382; obtain rfl : ad377 = ad382 := (by injection e382); replace p382 := eq_true p382; replace q382 := eq_true q382) | (go_at_call 28; (with_reducible refine (loops_Depth.calls kj8 _ _ t366 ((rd_T39 t366 t369).f2) t383 t384 _ ?side1 ?side2 A34.out).mono ?_); (case side1 => repeat (first | exact (Kd.R_reads' HO_5.out).2.2 | (with_reducible refine Kd.C_alloc ?_ _) | (with_reducible refine Kd.C_drewN ?_ _) | (with_reducible refine Kd.C_drew ?_))); (case side2 => exact (Kd.R_reads' HO_5.out).2.1); rintro e w50 ⟨rfl, hb⟩; have n0_ := Aside0.mk (Kd.R_below (by (with_reducible repeat (first | apply Kd.R_alloc | apply Kd.R_drewN | apply Kd.R_drew)); exact HO_5.out) hb); have n1_ := Aside0.mk (blk_below (g := gb365) (o := .cells #[.int .i64 a1_0, .int .i64 a1_1] 23 (0, 0)) (by (with_reducible repeat (first | refine blk_drewN ?_ _ | refine blk_drew ?_ | refine blk_alloc ?_ _)); exact BK365.out) hb); have n2_ := Aside0.mk (below_step (by repeat (first | (with_reducible first | exact HB.out | apply below_alloc | apply pw_below_drewN | apply below_drew1 | refine below_set ?_ GE365.out) | exact HB.out)) hb); clear HO_5; clear BK365; clear HB; have HO_5 := n0_; have BK365 := n1_; have HB := n2_; clear n0_ n1_ n2_; (try clear hb); (try clear hb2); (try clear hk); (try clear hi)))
          repeat (go_quiet (first | (go_at_call 28; (with_reducible refine (loops_Depth.calls kj8 _ _ t366 ((rd_T39 t366 t369).f1) t380 t381 _ ?side1 ?side2 A33.out).mono ?_); (case side1 => repeat (first | exact (Kd.R_reads' HO_5.out).2.2 | (with_reducible refine Kd.C_alloc ?_ _) | (with_reducible refine Kd.C_drewN ?_ _) | (with_reducible refine Kd.C_drew ?_))); (case side2 => exact (Kd.R_reads' HO_5.out).2.1); rintro e w49 ⟨rfl, hb⟩; have n0_ := Aside0.mk (Kd.R_below (by (with_reducible repeat (first | apply Kd.R_alloc | apply Kd.R_drewN | apply Kd.R_drew)); exact HO_5.out) hb); have n1_ := Aside0.mk (blk_below (g := gb365) (o := .cells #[.int .i64 a1_0, .int .i64 a1_1] 23 (0, 0)) (by (with_reducible repeat (first | refine blk_drewN ?_ _ | refine blk_drew ?_ | refine blk_alloc ?_ _)); exact BK365.out) hb); have n2_ := Aside0.mk (below_step (by repeat (first | (with_reducible first | exact HB.out | apply below_alloc | apply pw_below_drewN | apply below_drew1 | refine below_set ?_ GE365.out) | exact HB.out)) hb); clear HO_5; clear BK365; clear HB; have HO_5 := n0_; have BK365 := n1_; have HB := n2_; clear n0_ n1_ n2_; (try clear hb); (try clear hb2); (try clear hk); (try clear hi); have p382 : 0 ≤ (t369 : Int) := of_decide_eq_true (by first | (with_reducible assumption) | assumption); have q382 : t369 < (t366.length : Int) := of_decide_eq_true (by first | (with_reducible assumption) | assumption); obtain ⟨ad382, e382, hx382_0, hx382_1, hx382_2⟩ := at_T39 (Kd.R_reads' HO_5.out).2.2 t369 p382 q382; obtain rfl : ad377 = ad382 := (by injection e382); replace p382 := eq_true p382; replace q382 := eq_true q382) | (go_at_call 28; (with_reducible refine (loops_Depth.calls kj8 _ _ t366 ((rd_T39 t366 t369).f2) t383 t384 _ ?side1 ?side2 A34.out).mono ?_); (case side1 => repeat (first | exact (Kd.R_reads' HO_5.out).2.2 | (with_reducible refine Kd.C_alloc ?_ _) | (with_reducible refine Kd.C_drewN ?_ _) | (with_reducible refine Kd.C_drew ?_))); (case side2 => exact (Kd.R_reads' HO_5.out).2.1); rintro e w50 ⟨rfl, hb⟩; have n0_ := Aside0.mk (Kd.R_below (by (with_reducible repeat (first | apply Kd.R_alloc | apply Kd.R_drewN | apply Kd.R_drew)); exact HO_5.out) hb); have n1_ := Aside0.mk (blk_below (g := gb365) (o := .cells #[.int .i64 a1_0, .int .i64 a1_1] 23 (0, 0)) (by (with_reducible repeat (first | refine blk_drewN ?_ _ | refine blk_drew ?_ | refine blk_alloc ?_ _)); exact BK365.out) hb); have n2_ := Aside0.mk (below_step (by repeat (first | (with_reducible first | exact HB.out | apply below_alloc | apply pw_below_drewN | apply below_drew1 | refine below_set ?_ GE365.out) | exact HB.out)) hb); clear HO_5; clear BK365; clear HB; have HO_5 := n0_; have BK365 := n1_; have HB := n2_; clear n0_ n1_ n2_; (try clear hb); (try clear hb2); (try clear hk); (try clear hi))); try go_wp2_with (first | (go_at_call 28; (with_reducible refine (loops_Depth.calls kj8 _ _ t366 ((rd_T39 t366 t369).f1) t380 t381 _ ?side1 ?side2 A33.out).mono ?_); (case side1 => repeat (first | exact (Kd.R_reads' HO_5.out).2.2 | (with_reducible refine Kd.C_alloc ?_ _) | (with_reducible refine Kd.C_drewN ?_ _) | (with_reducible refine Kd.C_drew ?_))); (case side2 => exact (Kd.R_reads' HO_5.out).2.1); rintro e w49 ⟨rfl, hb⟩; have n0_ := Aside0.mk (Kd.R_below (by (with_reducible repeat (first | apply Kd.R_alloc | apply Kd.R_drewN | apply Kd.R_drew)); exact HO_5.out) hb); have n1_ := Aside0.mk (blk_below (g := gb365) (o := .cells #[.int .i64 a1_0, .int .i64 a1_1] 23 (0, 0)) (by (with_reducible repeat (first | refine blk_drewN ?_ _ | refine blk_drew ?_ | refine blk_alloc ?_ _)); exact BK365.out) hb); have n2_ := Aside0.mk (below_step (by repeat (first | (with_reducible first | exact HB.out | apply below_alloc | apply pw_below_drewN | apply below_drew1 | refine below_set ?_ GE365.out) | exact HB.out)) hb); clear HO_5; clear BK365; clear HB; have HO_5 := n0_; have BK365 := n1_; have HB := n2_; clear n0_ n1_ n2_; (try clear hb); (try clear hb2); (try clear hk); (try clear hi); have p382 : 0 ≤ (t369 : Int) := of_decide_eq_true (by first | (with_reducible assumption) | assumption); have q382 : t369 < (t366.length : Int) := of_decide_eq_true (by first | (with_reducible assumption) | assumption); obtain ⟨ad382, e382, hx382_0, hx382_1, hx382_2⟩ := at_T39 (Kd.R_reads' HO_5.out).2.2 t369 p382 q382; obtain rfl : ad377 = ad382 := (by injection e382); replace p382 := eq_true p382; replace q382 := eq_true q382) | (go_at_call 28; (with_reducible refine (loops_Depth.calls kj8 _ _ t366 ((rd_T39 t366 t369).f2) t383 t384 _ ?side1 ?side2 A34.out).mono ?_); (case side1 => repeat (first | exact (Kd.R_reads' HO_5.out).2.2 | (with_reducible refine Kd.C_alloc ?_ _) | (with_reducible refine Kd.C_drewN ?_ _) | (with_reducible refine Kd.C_drew ?_))); (case side2 => exact (Kd.R_reads' HO_5.out).2.1); rintro e w50 ⟨rfl, hb⟩; have n0_ := Aside0.mk (Kd.R_below (by (with_reducible repeat (first | apply Kd.R_alloc | apply Kd.R_drewN | apply Kd.R_drew)); exact HO_5.out) hb); have n1_ := Aside0.mk (blk_below (g := gb365) (o := .cells #[.int .i64 a1_0, .int .i64 a1_1] 23 (0, 0)) (by (with_reducible repeat (first | refine blk_drewN ?_ _ | refine blk_drew ?_ | refine blk_alloc ?_ _)); exact BK365.out) hb); have n2_ := Aside0.mk (below_step (by repeat (first | (with_reducible first | exact HB.out | apply below_alloc | apply pw_below_drewN | apply below_drew1 | refine below_set ?_ GE365.out) | exact HB.out)) hb); clear HO_5; clear BK365; clear HB; have HO_5 := n0_; have BK365 := n1_; have HB := n2_; clear n0_ n1_ n2_; (try clear hb); (try clear hb2); (try clear hk); (try clear hi))))
          go_ret
          exact ⟨by first | rfl | (simp [errW_none, errW_some] <;> rfl) | (simp [*, errW_none, errW_some] <;> rfl), by repeat (first | (with_reducible first | exact HB.out | apply below_alloc | apply pw_below_drewN | apply below_drew1 | refine below_set ?_ GE365.out) | exact HB.out)⟩
        ·rw [if_neg c36] at H
         have c36b0 : (t381 == 0) = false := beq_eq_false_iff_ne.mpr c36
         have c36b1 : (t381 != 0) = true := bne_iff_ne.mpr c36
         obtain rfl := Option.some.inj H
         have p377 : 0 ≤ (t369 : Int) := of_decide_eq_true (by first | (with_reducible assumption) | assumption)
         have q377 : t369 < (t366.length : Int) := of_decide_eq_true (by first | (with_reducible assumption) | assumption)
         obtain ⟨ad377, e377, hx377_0, hx377_1, hx377_2⟩ := at_T39 (Kd.R_reads' HO_5.out).2.2 t369 p377 q377
         cases e377
         replace p377 := eq_true p377
         replace q377 := eq_true q377
         have p379 : 0 ≤ (t369 : Int) := of_decide_eq_true (by first | (with_reducible assumption) | assumption)
         have q379 : t369 < (t366.length : Int) := of_decide_eq_true (by first | (with_reducible assumption) | assumption)
         obtain ⟨ad379, e379, hx379_0, hx379_1, hx379_2⟩ := at_T39 (Kd.R_reads' HO_5.out).2.2 t369 p379 q379
         obtain rfl : ad377 = ad379 := (by injection e379)
         replace p379 := eq_true p379
         replace q379 := eq_true q379
         go_wp2_with (first | (go_at_call 28; (with_reducible refine (loops_Depth.calls kj8 _ _ t366 ((rd_T39 t366 t369).f1) t380 t381 _ ?side1 ?side2 A33.out).mono ?_); (case side1 => repeat (first | exact (Kd.R_reads' HO_5.out).2.2 | (with_reducible refine Kd.C_alloc ?_ _) | (with_reducible refine Kd.C_drewN ?_ _) | (with_reducible refine Kd.C_drew ?_))); (case side2 => exact (Kd.R_reads' HO_5.out).2.1); rintro e w51 ⟨rfl, hb⟩; have n0_ := Aside0.mk (Kd.R_below (by (with_reducible repeat (first | apply Kd.R_alloc | apply Kd.R_drewN | apply Kd.R_drew)); exact HO_5.out) hb); have n1_ := Aside0.mk (blk_below (g := gb365) (o := .cells #[.int .i64 a1_0, .int .i64 a1_1] 23 (0, 0)) (by (with_reducible repeat (first | refine blk_drewN ?_ _ | refine blk_drew ?_ | refine blk_alloc ?_ _)); exact BK365.out) hb); have n2_ := Aside0.mk (below_step (by repeat (first | (with_reducible first | exact HB.out | apply below_alloc | apply pw_below_drewN | apply below_drew1 | refine below_set ?_ GE365.out) | exact HB.out)) hb); clear HO_5; clear BK365; clear HB; have HO_5 := n0_; have BK365 := n1_; have HB := n2_; clear n0_ n1_ n2_; (try clear hb); (try clear hb2); (try clear hk); (try clear hi); have p382 : 0 ≤ (t369 : Int) := of_decide_eq_true (by first | (with_reducible assumption) | assumption); have q382 : t369 < (t366.length : Int) := of_decide_eq_true (by first | (with_reducible assumption) | assumption); obtain ⟨ad382, e382, hx382_0, hx382_1, hx382_2⟩ := at_T39 (Kd.R_reads' HO_5.out).2.2 t369 p382 q382; obtain rfl : ad377 = ad382 := (by injection e382); replace p382 := eq_true p382; replace q382 := eq_true q382) | (go_at_call 28; (with_reducible refine (loops_Depth.calls kj8 _ _ t366 ((rd_T39 t366 t369).f2) t383 t384 _ ?side1 ?side2 A34.out).mono ?_); (case side1 => repeat (first | exact (Kd.R_reads' HO_5.out).2.2 | (with_reducible refine Kd.C_alloc ?_ _) | (with_reducible refine Kd.C_drewN ?_ _) | (with_reducible refine Kd.C_drew ?_))); (case side2 => exact (Kd.R_reads' HO_5.out).2.1); rintro e w52 ⟨rfl, hb⟩; have n0_ := Aside0.mk (Kd.R_below (by (with_reducible repeat (first | apply Kd.R_alloc | apply Kd.R_drewN | apply Kd.R_drew)); exact HO_5.out) hb); have n1_ := Aside0.mk (blk_below (g := gb365) (o := .cells #[.int .i64 a1_0, .int .i64 a1_1] 23 (0, 0)) (by (with_reducible repeat (first | refine blk_drewN ?_ _ | refine blk_drew ?_ | refine blk_alloc ?_ _)); exact BK365.out) hb); have n2_ := Aside0.mk (below_step (by repeat (first | (with_reducible first | exact HB.out | apply below_alloc | apply pw_below_drewN | apply below_drew1 | refine below_set ?_ GE365.out) | exact HB.out)) hb); clear HO_5; clear BK365; clear HB; have HO_5 := n0_; have BK365 := n1_; have HB := n2_; clear n0_ n1_ n2_; (try clear hb); (try clear hb2); (try clear hk); (try clear hi)))
         repeat (go_quiet (first | (go_at_call 28; (with_reducible refine (loops_Depth.calls kj8 _ _ t366 ((rd_T39 t366 t369).f1) t380 t381 _ ?side1 ?side2 A33.out).mono ?_); (case side1 => repeat (first | exact (Kd.R_reads' HO_5.out).2.2 | (with_reducible refine Kd.C_alloc ?_ _) | (with_reducible refine Kd.C_drewN ?_ _) | (with_reducible refine Kd.C_drew ?_))); (case side2 => exact (Kd.R_reads' HO_5.out).2.1); rintro e w51 ⟨rfl, hb⟩; have n0_ := Aside0.mk (Kd.R_below (by (with_reducible repeat (first | apply Kd.R_alloc | apply Kd.R_drewN | apply Kd.R_drew)); exact HO_5.out) hb); have n1_ := Aside0.mk (blk_below (g := gb365) (o := .cells #[.int .i64 a1_0, .int .i64 a1_1] 23 (0, 0)) (by (with_reducible repeat (first | refine blk_drewN ?_ _ | refine blk_drew ?_ | refine blk_alloc ?_ _)); exact BK365.out) hb); have n2_ := Aside0.mk (below_step (by repeat (first | (with_reducible first | exact HB.out | apply below_alloc | apply pw_below_drewN | apply below_drew1 | refine below_set ?_ GE365.out) | exact HB.out)) hb); clear HO_5; clear BK365; clear HB; have HO_5 := n0_; have BK365 := n1_; have HB := n2_; clear n0_ n1_ n2_; (try clear hb); (try clear hb2); (try clear hk); (try clear hi); have p382 : 0 ≤ (t369 : Int) := of_decide_eq_true (by first | (with_reducible assumption) | assumption); have q382 : t369 < (t366.length : Int) := of_decide_eq_true (by first | (with_reducible assumption) | assumption); obtain ⟨ad382, e382, hx382_0, hx382_1, hx382_2⟩ := at_T39 (Kd.R_reads' HO_5.out).2.2 t369 p382 q382; obtain rfl : ad377 = ad382 := (by injection e382); replace p382 := eq_true p382; replace q382 := eq_true q382) | (go_at_call 28; (with_reducible refine (loops_Depth.calls kj8 _ _ t366 ((rd_T39 t366 t369).f2) t383 t384 _ ?side1 ?side2 A34.out).mono ?_); (case side1 => repeat (first | exact (Kd.R_reads' HO_5.out).2.2 | (with_reducible refine Kd.C_alloc ?_ _) | (with_reducible refine Kd.C_drewN ?_ _) | (with_reducible refine Kd.C_drew ?_))); (case side2 => exact (Kd.R_reads' HO_5.out).2.1); rintro e w52 ⟨rfl, hb⟩; have n0_ := Aside0.mk (Kd.R_below (by (with_reducible repeat (first | apply Kd.R_alloc | apply Kd.R_drewN | apply Kd.R_drew)); exact HO_5.out) hb); have n1_ := Aside0.mk (blk_below (g := gb365) (o := .cells #[.int .i64 a1_0, .int .i64 a1_1] 23 (0, 0)) (by (with_reducible repeat (first | refine blk_drewN ?_ _ | refine blk_drew ?_ | refine blk_alloc ?_ _)); exact BK365.out) hb); have n2_ := Aside0.mk (below_step (by repeat (first | (with_reducible first | exact HB.out | apply below_alloc | apply pw_below_drewN | apply below_drew1 | refine below_set ?_ GE365.out) | exact HB.out)) hb); clear HO_5; clear BK365; clear HB; have HO_5 := n0_; have BK365 := n1_; have HB := n2_; clear n0_ n1_ n2_; (try clear hb); (try clear hb2); (try clear hk); (try clear hi))); try go_wp2_with (first | (go_at_call 28; (with_reducible refine (loops_Depth.calls kj8 _ _ t366 ((rd_T39 t366 t369).f1) t380 t381 _ ?side1 ?side2 A33.out).mono ?_); (case side1 => repeat (first | exact (Kd.R_reads' HO_5.out).2.2 | (with_reducible refine Kd.C_alloc ?_ _) | (with_reducible refine Kd.C_drewN ?_ _) | (with_reducible refine Kd.C_drew ?_))); (case side2 => exact (Kd.R_reads' HO_5.out).2.1); rintro e w51 ⟨rfl, hb⟩; have n0_ := Aside0.mk (Kd.R_below (by (with_reducible repeat (first | apply Kd.R_alloc | apply Kd.R_drewN | apply Kd.R_drew)); exact HO_5.out) hb); have n1_ := Aside0.mk (blk_below (g := gb365) (o := .cells #[.int .i64 a1_0, .int .i64 a1_1] 23 (0, 0)) (by (with_reducible repeat (first | refine blk_drewN ?_ _ | refine blk_drew ?_ | refine blk_alloc ?_ _)); exact BK365.out) hb); have n2_ := Aside0.mk (below_step (by repeat (first | (with_reducible first | exact HB.out | apply below_alloc | apply pw_below_drewN | apply below_drew1 | refine below_set ?_ GE365.out) | exact HB.out)) hb); clear HO_5; clear BK365; clear HB; have HO_5 := n0_; have BK365 := n1_; have HB := n2_; clear n0_ n1_ n2_; (try clear hb); (try clear hb2); (try clear hk); (try clear hi); have p382 : 0 ≤ (t369 : Int) := of_decide_eq_true (by first | (with_reducible assumption) | assumption); have q382 : t369 < (t366.length : Int) := of_decide_eq_true (by first | (with_reducible assumption) | assumption); obtain ⟨ad382, e382, hx382_0, hx382_1, hx382_2⟩ := at_T39 (Kd.R_reads' HO_5.out).2.2 t369 p382 q382; obtain rfl : ad377 = ad382 := (by injection e382); replace p382 := eq_true p382; replace q382 := eq_true q382) | (go_at_call 28; (with_reducible refine (loops_Depth.calls kj8 _ _ t366 ((rd_T39 t366 t369).f2) t383 t384 _ ?side1 ?side2 A34.out).mono ?_); (case side1 => repeat (first | exact (Kd.R_reads' HO_5.out).2.2 | (with_reducible refine Kd.C_alloc ?_ _) | (with_reducible refine Kd.C_drewN ?_ _) | (with_reducible refine Kd.C_drew ?_))); (case side2 => exact (Kd.R_reads' HO_5.out).2.1); rintro e w52 ⟨rfl, hb⟩; have n0_ := Aside0.mk (Kd.R_below (by (with_reducible repeat (first | apply Kd.R_alloc | apply Kd.R_drewN | apply Kd.R_drew)); exact HO_5.out) hb); have n1_ := Aside0.mk (blk_below (g := gb365) (o := .cells #[.int .i64 a1_0, .int .i64 a1_1] 23 (0, 0)) (by (with_reducible repeat (first | refine blk_drewN ?_ _ | refine blk_drew ?_ | refine blk_alloc ?_ _)); exact BK365.out) hb); have n2_ := Aside0.mk (below_step (by repeat (first | (with_reducible first | exact HB.out | apply below_alloc | apply pw_below_drewN | apply below_drew1 | refine below_set ?_ GE365.out) | exact HB.out)) hb); clear HO_5; clear BK365; clear HB; have HO_5 := n0_; have BK365 := n1_; have HB := n2_; clear n0_ n1_ n2_; (try clear hb); (try clear hb2); (try clear hk); (try clear hi))))
         go_ret
         exact ⟨by first | rfl | (simp [errW_none, errW_some] <;> rfl) | (simp [*, errW_none, errW_some] <;> rfl), by repeat (first | (with_reducible first | exact HB.out | apply below_alloc | apply pw_below_drewN | apply below_drew1 | refine below_set ?_ GE365.out) | exact HB.out)⟩
       ·rw [if_neg c35] at H
        have c35b0 : (t372 == 0) = false := beq_eq_false_iff_ne.mpr c35
        have c35b1 : (t372 != 0) = true := bne_iff_ne.mpr c35
        by_cases c53 : t381 = 0
        ·rw [if_pos c53] at H
         have c53b0 : (t381 == 0) = true := beq_iff_eq.mpr c53
         have c53b1 : (t381 != 0) = false := bne_eq_false_iff_eq.mpr c53
         clear c53
         by_cases c54 : t384 = 0
         ·rw [if_pos c54] at H
          have c54b0 : (t384 == 0) = true := beq_iff_eq.mpr c54
          have c54b1 : (t384 != 0) = false := bne_eq_false_iff_eq.mpr c54
          clear c54
          obtain rfl := Option.some.inj H
          have p377 : 0 ≤ (t369 : Int) := of_decide_eq_true (by first | (with_reducible assumption) | assumption)
          have q377 : t369 < (t366.length : Int) := of_decide_eq_true (by first | (with_reducible assumption) | assumption)
          obtain ⟨ad377, e377, hx377_0, hx377_1, hx377_2⟩ := at_T39 (Kd.R_reads' HO_5.out).2.2 t369 p377 q377
          cases e377
          replace p377 := eq_true p377
          replace q377 := eq_true q377
          have p379 : 0 ≤ (t369 : Int) := of_decide_eq_true (by first | (with_reducible assumption) | assumption)
          have q379 : t369 < (t366.length : Int) := of_decide_eq_true (by first | (with_reducible assumption) | assumption)
          obtain ⟨ad379, e379, hx379_0, hx379_1, hx379_2⟩ := at_T39 (Kd.R_reads' HO_5.out).2.2 t369 p379 q379
          obtain rfl : ad377 = ad379 := (by injection e379)
          replace p379 := eq_true p379
          replace q379 := eq_true q379
          go_wp2_with (first | (go_at_call 28; (with_reducible refine (loops_Depth.calls kj8 _ _ t366 ((rd_T39 t366 t369).f1) t380 t381 _ ?side1 ?side2 A33.out).mono ?_); (case side1 => repeat (first | exact (Kd.R_reads' HO_5.out).2.2 | (with_reducible refine Kd.C_alloc ?_ _) | (with_reducible refine Kd.C_drewN ?_ _) | (with_reducible refine Kd.C_drew ?_))); (case side2 => exact (Kd.R_reads' HO_5.out).2.1); rintro e w55 ⟨rfl, hb⟩; have n0_ := Aside0.mk (Kd.R_below (by (with_reducible repeat (first | apply Kd.R_alloc | apply Kd.R_drewN | apply Kd.R_drew)); exact HO_5.out) hb); have n1_ := Aside0.mk (blk_below (g := gb365) (o := .cells #[.int .i64 a1_0, .int .i64 a1_1] 23 (0, 0)) (by (with_reducible repeat (first | refine blk_drewN ?_ _ | refine blk_drew ?_ | refine blk_alloc ?_ _)); exact BK365.out) hb); have n2_ := Aside0.mk (below_step (by repeat (first | (with_reducible first | exact HB.out | apply below_alloc | apply pw_below_drewN | apply below_drew1 | refine below_set ?_ GE365.out) | exact HB.out)) hb); clear HO_5; clear BK365; clear HB; have HO_5 := n0_; have BK365 := n1_; have HB := n2_; clear n0_ n1_ n2_; (try clear hb); (try clear hb2); (try clear hk); (try clear hi); have p382 : 0 ≤ (t369 : Int) := of_decide_eq_true (by first | (with_reducible assumption) | assumption); have q382 : t369 < (t366.length : Int) := of_decide_eq_true (by first | (with_reducible assumption) | assumption); obtain ⟨ad382, e382, hx382_0, hx382_1, hx382_2⟩ := at_T39 (Kd.R_reads' HO_5.out).2.2 t369 p382 q382; obtain rfl : ad377 = ad382 := (by injection e382); replace p382 := eq_true p382; replace q382 := eq_true q382) | (go_at_call 28; (with_reducible refine (loops_Depth.calls kj8 _ _ t366 ((rd_T39 t366 t369).f2) t383 t384 _ ?side1 ?side2 A34.out).mono ?_); (case side1 => repeat (first | exact (Kd.R_reads' HO_5.out).2.2 | (with_reducible refine Kd.C_alloc ?_ _) | (with_reducible refine Kd.C_drewN ?_ _) | (with_reducible refine Kd.C_drew ?_))); (case side2 => exact (Kd.R_reads' HO_5.out).2.1); rintro e w56 ⟨rfl, hb⟩; have n0_ := Aside0.mk (Kd.R_below (by (with_reducible repeat (first | apply Kd.R_alloc | apply Kd.R_drewN | apply Kd.R_drew)); exact HO_5.out) hb); have n1_ := Aside0.mk (blk_below (g := gb365) (o := .cells #[.int .i64 a1_0, .int .i64 a1_1] 23 (0, 0)) (by (with_reducible repeat (first | refine blk_drewN ?_ _ | refine blk_drew ?_ | refine blk_alloc ?_ _)); exact BK365.out) hb); have n2_ := Aside0.mk (below_step (by repeat (first | (with_reducible first | exact HB.out | apply below_alloc | apply pw_below_drewN | apply below_drew1 | refine below_set ?_ GE365.out) | exact HB.out)) hb); clear HO_5; clear BK365; clear HB; have HO_5 := n0_; have BK365 := n1_; have HB := n2_; clear n0_ n1_ n2_; (try clear hb); (try clear hb2); (try clear hk); (try clear hi)))
          repeat (go_quiet (first | (go_at_call 28; (with_reducible refine (loops_Depth.calls kj8 _ _ t366 ((rd_T39 t366 t369).f1) t380 t381 _ ?side1 ?side2 A33.out).mono ?_); (case side1 => repeat (first | exact (Kd.R_reads' HO_5.out).2.2 | (with_reducible refine Kd.C_alloc ?_ _) | (with_reducible refine Kd.C_drewN ?_ _) | (with_reducible refine Kd.C_drew ?_))); (case side2 => exact (Kd.R_reads' HO_5.out).2.1); rintro e w55 ⟨rfl, hb⟩; have n0_ := Aside0.mk (Kd.R_below (by (with_reducible repeat (first | apply Kd.R_alloc | apply Kd.R_drewN | apply Kd.R_drew)); exact HO_5.out) hb); have n1_ := Aside0.mk (blk_below (g := gb365) (o := .cells #[.int .i64 a1_0, .int .i64 a1_1] 23 (0, 0)) (by (with_reducible repeat (first | refine blk_drewN ?_ _ | refine blk_drew ?_ | refine blk_alloc ?_ _)); exact BK365.out) hb); have n2_ := Aside0.mk (below_step (by repeat (first | (with_reducible first | exact HB.out | apply below_alloc | apply pw_below_drewN | apply below_drew1 | refine below_set ?_ GE365.out) | exact HB.out)) hb); clear HO_5; clear BK365; clear HB; have HO_5 := n0_; have BK365 := n1_; have HB := n2_; clear n0_ n1_ n2_; (try clear hb); (try clear hb2); (try clear hk); (try clear hi); have p382 : 0 ≤ (t369 : Int) := of_decide_eq_true (by first | (with_reducible assumption) | assumption); have q382 : t369 < (t366.length : Int) := of_decide_eq_true (by first | (with_reducible assumption) | assumption); obtain ⟨ad382, e382, hx382_0, hx382_1, hx382_2⟩ := at_T39 (Kd.R_reads' HO_5.out).2.2 t369 p382 q382; obtain rfl : ad377 = ad382 := (by injection e382); replace p382 := eq_true p382; replace q382 := eq_true q382) | (go_at_call 28; (with_reducible refine (loops_Depth.calls kj8 _ _ t366 ((rd_T39 t366 t369).f2) t383 t384 _ ?side1 ?side2 A34.out).mono ?_); (case side1 => repeat (first | exact (Kd.R_reads' HO_5.out).2.2 | (with_reducible refine Kd.C_alloc ?_ _) | (with_reducible refine Kd.C_drewN ?_ _) | (with_reducible refine Kd.C_drew ?_))); (case side2 => exact (Kd.R_reads' HO_5.out).2.1); rintro e w56 ⟨rfl, hb⟩; have n0_ := Aside0.mk (Kd.R_below (by (with_reducible repeat (first | apply Kd.R_alloc | apply Kd.R_drewN | apply Kd.R_drew)); exact HO_5.out) hb); have n1_ := Aside0.mk (blk_below (g := gb365) (o := .cells #[.int .i64 a1_0, .int .i64 a1_1] 23 (0, 0)) (by (with_reducible repeat (first | refine blk_drewN ?_ _ | refine blk_drew ?_ | refine blk_alloc ?_ _)); exact BK365.out) hb); have n2_ := Aside0.mk (below_step (by repeat (first | (with_reducible first | exact HB.out | apply below_alloc | apply pw_below_drewN | apply below_drew1 | refine below_set ?_ GE365.out) | exact HB.out)) hb); clear HO_5; clear BK365; clear HB; have HO_5 := n0_; have BK365 := n1_; have HB := n2_; clear n0_ n1_ n2_; (try clear hb); (try clear hb2); (try clear hk); (try clear hi))); try go_wp2_with (first | (go_at_call 28; (with_reducible refine (loops_Depth.calls kj8 _ _ t366 ((rd_T39 t366 t369).f1) t380 t381 _ ?side1 ?side2 A33.out).mono ?_); (case side1 => repeat (first | exact (Kd.R_reads' HO_5.out).2.2 | (with_reducible refine Kd.C_alloc ?_ _) | (with_reducible refine Kd.C_drewN ?_ _) | (with_reducible refine Kd.C_drew ?_))); (case side2 => exact (Kd.R_reads' HO_5.out).2.1); rintro e w55 ⟨rfl, hb⟩; have n0_ := Aside0.mk (Kd.R_below (by (with_reducible repeat (first | apply Kd.R_alloc | apply Kd.R_drewN | apply Kd.R_drew)); exact HO_5.out) hb); have n1_ := Aside0.mk (blk_below (g := gb365) (o := .cells #[.int .i64 a1_0, .int .i64 a1_1] 23 (0, 0)) (by (with_reducible repeat (first | refine blk_drewN ?_ _ | refine blk_drew ?_ | refine blk_alloc ?_ _)); exact BK365.out) hb); have n2_ := Aside0.mk (below_step (by repeat (first | (with_reducible first | exact HB.out | apply below_alloc | apply pw_below_drewN | apply below_drew1 | refine below_set ?_ GE365.out) | exact HB.out)) hb); clear HO_5; clear BK365; clear HB; have HO_5 := n0_; have BK365 := n1_; have HB := n2_; clear n0_ n1_ n2_; (try clear hb); (try clear hb2); (try clear hk); (try clear hi); have p382 : 0 ≤ (t369 : Int) := of_decide_eq_true (by first | (with_reducible assumption) | assumption); have q382 : t369 < (t366.length : Int) := of_decide_eq_true (by first | (with_reducible assumption) | assumption); obtain ⟨ad382, e382, hx382_0, hx382_1, hx382_2⟩ := at_T39 (Kd.R_reads' HO_5.out).2.2 t369 p382 q382; obtain rfl : ad377 = ad382 := (by injection e382); replace p382 := eq_true p382; replace q382 := eq_true q382) | (go_at_call 28; (with_reducible refine (loops_Depth.calls kj8 _ _ t366 ((rd_T39 t366 t369).f2) t383 t384 _ ?side1 ?side2 A34.out).mono ?_); (case side1 => repeat (first | exact (Kd.R_reads' HO_5.out).2.2 | (with_reducible refine Kd.C_alloc ?_ _) | (with_reducible refine Kd.C_drewN ?_ _) | (with_reducible refine Kd.C_drew ?_))); (case side2 => exact (Kd.R_reads' HO_5.out).2.1); rintro e w56 ⟨rfl, hb⟩; have n0_ := Aside0.mk (Kd.R_below (by (with_reducible repeat (first | apply Kd.R_alloc | apply Kd.R_drewN | apply Kd.R_drew)); exact HO_5.out) hb); have n1_ := Aside0.mk (blk_below (g := gb365) (o := .cells #[.int .i64 a1_0, .int .i64 a1_1] 23 (0, 0)) (by (with_reducible repeat (first | refine blk_drewN ?_ _ | refine blk_drew ?_ | refine blk_alloc ?_ _)); exact BK365.out) hb); have n2_ := Aside0.mk (below_step (by repeat (first | (with_reducible first | exact HB.out | apply below_alloc | apply pw_below_drewN | apply below_drew1 | refine below_set ?_ GE365.out) | exact HB.out)) hb); clear HO_5; clear BK365; clear HB; have HO_5 := n0_; have BK365 := n1_; have HB := n2_; clear n0_ n1_ n2_; (try clear hb); (try clear hb2); (try clear hk); (try clear hi))))
          go_ret
          exact ⟨by first | rfl | (simp [errW_none, errW_some] <;> rfl) | (simp [*, errW_none, errW_some] <;> rfl), by repeat (first | (with_reducible first | exact HB.out | apply below_alloc | apply pw_below_drewN | apply below_drew1 | refine below_set ?_ GE365.out) | exact HB.out)⟩
         ·rw [if_neg c54] at H
          have c54b0 : (t384 == 0) = false := beq_eq_false_iff_ne.mpr c54
          have c54b1 : (t384 != 0) = true := bne_iff_ne.mpr c54
          replace H := Option.bind_eq_some_iff.mp H
          obtain ⟨t386, A570, H⟩ := H
          replace H : (some t386) = some r := H
          have A57 := Aside0.mk A570
          clear A570
          obtain rfl := Option.some.inj H
          have p377 : 0 ≤ (t369 : Int) := of_decide_eq_true (by first | (with_reducible assumption) | assumption)
          have q377 : t369 < (t366.length : Int) := of_decide_eq_true (by first | (with_reducible assumption) | assumption)
          obtain ⟨ad377, e377, hx377_0, hx377_1, hx377_2⟩ := at_T39 (Kd.R_reads' HO_5.out).2.2 t369 p377 q377
          cases e377
          replace p377 := eq_true p377
          replace q377 := eq_true q377
          have p379 : 0 ≤ (t369 : Int) := of_decide_eq_true (by first | (with_reducible assumption) | assumption)
          have q379 : t369 < (t366.length : Int) := of_decide_eq_true (by first | (with_reducible assumption) | assumption)
          obtain ⟨ad379, e379, hx379_0, hx379_1, hx379_2⟩ := at_T39 (Kd.R_reads' HO_5.out).2.2 t369 p379 q379
          obtain rfl : ad377 = ad379 := (by injection e379)
          replace p379 := eq_true p379
          replace q379 := eq_true q379
          go_wp2_with (first | (go_at_call 28; (with_reducible refine (loops_Depth.calls kj8 _ _ t366 ((rd_T39 t366 t369).f1) t380 t381 _ ?side1 ?side2 A33.out).mono ?_); (case side1 => repeat (first | exact (Kd.R_reads' HO_5.out).2.2 | (with_reducible refine Kd.C_alloc ?_ _) | (with_reducible refine Kd.C_drewN ?_ _) | (with_reducible refine Kd.C_drew ?_))); (case side2 => exact (Kd.R_reads' HO_5.out).2.1); rintro e w58 ⟨rfl, hb⟩; have n0_ := Aside0.mk (Kd.R_below (by (with_reducible repeat (first | apply Kd.R_alloc | apply Kd.R_drewN | apply Kd.R_drew)); exact HO_5.out) hb); have n1_ := Aside0.mk (blk_below (g := gb365) (o := .cells #[.int .i64 a1_0, .int .i64 a1_1] 23 (0, 0)) (by (with_reducible repeat (first | refine blk_drewN ?_ _ | refine blk_drew ?_ | refine blk_alloc ?_ _)); exact BK365.out) hb); have n2_ := Aside0.mk (below_step (by repeat (first | (with_reducible first | exact HB.out | apply below_alloc | apply pw_below_drewN | apply below_drew1 | refine below_set ?_ GE365.out) | exact HB.out)) hb); clear HO_5; clear BK365; clear HB; have HO_5 := n0_; have BK365 := n1_; have HB := n2_; clear n0_ n1_ n2_; (try clear hb); (try clear hb2); (try clear hk); (try clear hi); have p382 : 0 ≤ (t369 : Int) := of_decide_eq_true (by first | (with_reducible assumption) | assumption); have q382 : t369 < (t366.length : Int) := of_decide_eq_true (by first | (with_reducible assumption) | assumption); obtain ⟨ad382, e382, hx382_0, hx382_1, hx382_2⟩ := at_T39 (Kd.R_reads' HO_5.out).2.2 t369 p382 q382; obtain rfl : ad377 = ad382 := (by injection e382); replace p382 := eq_true p382; replace q382 := eq_true q382) | (go_at_call 28; (with_reducible refine (loops_Depth.calls kj8 _ _ t366 ((rd_T39 t366 t369).f2) t383 t384 _ ?side1 ?side2 A34.out).mono ?_); (case side1 => repeat (first | exact (Kd.R_reads' HO_5.out).2.2 | (with_reducible refine Kd.C_alloc ?_ _) | (with_reducible refine Kd.C_drewN ?_ _) | (with_reducible refine Kd.C_drew ?_))); (case side2 => exact (Kd.R_reads' HO_5.out).2.1); rintro e w59 ⟨rfl, hb⟩; have n0_ := Aside0.mk (Kd.R_below (by (with_reducible repeat (first | apply Kd.R_alloc | apply Kd.R_drewN | apply Kd.R_drew)); exact HO_5.out) hb); have n1_ := Aside0.mk (blk_below (g := gb365) (o := .cells #[.int .i64 a1_0, .int .i64 a1_1] 23 (0, 0)) (by (with_reducible repeat (first | refine blk_drewN ?_ _ | refine blk_drew ?_ | refine blk_alloc ?_ _)); exact BK365.out) hb); have n2_ := Aside0.mk (below_step (by repeat (first | (with_reducible first | exact HB.out | apply below_alloc | apply pw_below_drewN | apply below_drew1 | refine below_set ?_ GE365.out) | exact HB.out)) hb); clear HO_5; clear BK365; clear HB; have HO_5 := n0_; have BK365 := n1_; have HB := n2_; clear n0_ n1_ n2_; (try clear hb); (try clear hb2); (try clear hk); (try clear hi)) | (go_at_call 19; (with_reducible refine (tickinglaw06_awake.calls kj8  t386 _ A57.out).mono ?_); rintro e w60 ⟨rfl, hb⟩; have n0_ := Aside0.mk (Kd.R_below (by (with_reducible repeat (first | apply Kd.R_alloc | apply Kd.R_drewN | apply Kd.R_drew)); exact HO_5.out) hb); have n1_ := Aside0.mk (blk_below (g := gb365) (o := .cells #[.int .i64 a1_0, .int .i64 a1_1] 23 (0, 0)) (by (with_reducible repeat (first | refine blk_drewN ?_ _ | refine blk_drew ?_ | refine blk_alloc ?_ _)); exact BK365.out) hb); have n2_ := Aside0.mk (below_step (by repeat (first | (with_reducible first | exact HB.out | apply below_alloc | apply pw_below_drewN | apply below_drew1 | refine below_set ?_ GE365.out) | exact HB.out)) hb); clear HO_5; clear BK365; clear HB; have HO_5 := n0_; have BK365 := n1_; have HB := n2_; clear n0_ n1_ n2_; (try clear hb); (try clear hb2); (try clear hk); (try clear hi)))
          repeat (go_quiet (first | (go_at_call 28; (with_reducible refine (loops_Depth.calls kj8 _ _ t366 ((rd_T39 t366 t369).f1) t380 t381 _ ?side1 ?side2 A33.out).mono ?_); (case side1 => repeat (first | exact (Kd.R_reads' HO_5.out).2.2 | (with_reducible refine Kd.C_alloc ?_ _) | (with_reducible refine Kd.C_drewN ?_ _) | (with_reducible refine Kd.C_drew ?_))); (case side2 => exact (Kd.R_reads' HO_5.out).2.1); rintro e w58 ⟨rfl, hb⟩; have n0_ := Aside0.mk (Kd.R_below (by (with_reducible repeat (first | apply Kd.R_alloc | apply Kd.R_drewN | apply Kd.R_drew)); exact HO_5.out) hb); have n1_ := Aside0.mk (blk_below (g := gb365) (o := .cells #[.int .i64 a1_0, .int .i64 a1_1] 23 (0, 0)) (by (with_reducible repeat (first | refine blk_drewN ?_ _ | refine blk_drew ?_ | refine blk_alloc ?_ _)); exact BK365.out) hb); have n2_ := Aside0.mk (below_step (by repeat (first | (with_reducible first | exact HB.out | apply below_alloc | apply pw_below_drewN | apply below_drew1 | refine below_set ?_ GE365.out) | exact HB.out)) hb); clear HO_5; clear BK365; clear HB; have HO_5 := n0_; have BK365 := n1_; have HB := n2_; clear n0_ n1_ n2_; (try clear hb); (try clear hb2); (try clear hk); (try clear hi); have p382 : 0 ≤ (t369 : Int) := of_decide_eq_true (by first | (with_reducible assumption) | assumption); have q382 : t369 < (t366.length : Int) := of_decide_eq_true (by first | (with_reducible assumption) | assumption); obtain ⟨ad382, e382, hx382_0, hx382_1, hx382_2⟩ := at_T39 (Kd.R_reads' HO_5.out).2.2 t369 p382 q382; obtain rfl : ad377 = ad382 := (by injection e382); replace p382 := eq_true p382; replace q382 := eq_true q382) | (go_at_call 28; (with_reducible refine (loops_Depth.calls kj8 _ _ t366 ((rd_T39 t366 t369).f2) t383 t384 _ ?side1 ?side2 A34.out).mono ?_); (case side1 => repeat (first | exact (Kd.R_reads' HO_5.out).2.2 | (with_reducible refine Kd.C_alloc ?_ _) | (with_reducible refine Kd.C_drewN ?_ _) | (with_reducible refine Kd.C_drew ?_))); (case side2 => exact (Kd.R_reads' HO_5.out).2.1); rintro e w59 ⟨rfl, hb⟩; have n0_ := Aside0.mk (Kd.R_below (by (with_reducible repeat (first | apply Kd.R_alloc | apply Kd.R_drewN | apply Kd.R_drew)); exact HO_5.out) hb); have n1_ := Aside0.mk (blk_below (g := gb365) (o := .cells #[.int .i64 a1_0, .int .i64 a1_1] 23 (0, 0)) (by (with_reducible repeat (first | refine blk_drewN ?_ _ | refine blk_drew ?_ | refine blk_alloc ?_ _)); exact BK365.out) hb); have n2_ := Aside0.mk (below_step (by repeat (first | (with_reducible first | exact HB.out | apply below_alloc | apply pw_below_drewN | apply below_drew1 | refine below_set ?_ GE365.out) | exact HB.out)) hb); clear HO_5; clear BK365; clear HB; have HO_5 := n0_; have BK365 := n1_; have HB := n2_; clear n0_ n1_ n2_; (try clear hb); (try clear hb2); (try clear hk); (try clear hi)) | (go_at_call 19; (with_reducible refine (tickinglaw06_awake.calls kj8  t386 _ A57.out).mono ?_); rintro e w60 ⟨rfl, hb⟩; have n0_ := Aside0.mk (Kd.R_below (by (with_reducible repeat (first | apply Kd.R_alloc | apply Kd.R_drewN | apply Kd.R_drew)); exact HO_5.out) hb); have n1_ := Aside0.mk (blk_below (g := gb365) (o := .cells #[.int .i64 a1_0, .int .i64 a1_1] 23 (0, 0)) (by (with_reducible repeat (first | refine blk_drewN ?_ _ | refine blk_drew ?_ | refine blk_alloc ?_ _)); exact BK365.out) hb); have n2_ := Aside0.mk (below_step (by repeat (first | (with_reducible first | exact HB.out | apply below_alloc | apply pw_below_drewN | apply below_drew1 | refine below_set ?_ GE365.out) | exact HB.out)) hb); clear HO_5; clear BK365; clear HB; have HO_5 := n0_; have BK365 := n1_; have HB := n2_; clear n0_ n1_ n2_; (try clear hb); (try clear hb2); (try clear hk); (try clear hi))); try go_wp2_with (first | (go_at_call 28; (with_reducible refine (loops_Depth.calls kj8 _ _ t366 ((rd_T39 t366 t369).f1) t380 t381 _ ?side1 ?side2 A33.out).mono ?_); (case side1 => repeat (first | exact (Kd.R_reads' HO_5.out).2.2 | (with_reducible refine Kd.C_alloc ?_ _) | (with_reducible refine Kd.C_drewN ?_ _) | (with_reducible refine Kd.C_drew ?_))); (case side2 => exact (Kd.R_reads' HO_5.out).2.1); rintro e w58 ⟨rfl, hb⟩; have n0_ := Aside0.mk (Kd.R_below (by (with_reducible repeat (first | apply Kd.R_alloc | apply Kd.R_drewN | apply Kd.R_drew)); exact HO_5.out) hb); have n1_ := Aside0.mk (blk_below (g := gb365) (o := .cells #[.int .i64 a1_0, .int .i64 a1_1] 23 (0, 0)) (by (with_reducible repeat (first | refine blk_drewN ?_ _ | refine blk_drew ?_ | refine blk_alloc ?_ _)); exact BK365.out) hb); have n2_ := Aside0.mk (below_step (by repeat (first | (with_reducible first | exact HB.out | apply below_alloc | apply pw_below_drewN | apply below_drew1 | refine below_set ?_ GE365.out) | exact HB.out)) hb); clear HO_5; clear BK365; clear HB; have HO_5 := n0_; have BK365 := n1_; have HB := n2_; clear n0_ n1_ n2_; (try clear hb); (try clear hb2); (try clear hk); (try clear hi); have p382 : 0 ≤ (t369 : Int) := of_decide_eq_true (by first | (with_reducible assumption) | assumption); have q382 : t369 < (t366.length : Int) := of_decide_eq_true (by first | (with_reducible assumption) | assumption); obtain ⟨ad382, e382, hx382_0, hx382_1, hx382_2⟩ := at_T39 (Kd.R_reads' HO_5.out).2.2 t369 p382 q382; obtain rfl : ad377 = ad382 := (by injection e382); replace p382 := eq_true p382; replace q382 := eq_true q382) | (go_at_call 28; (with_reducible refine (loops_Depth.calls kj8 _ _ t366 ((rd_T39 t366 t369).f2) t383 t384 _ ?side1 ?side2 A34.out).mono ?_); (case side1 => repeat (first | exact (Kd.R_reads' HO_5.out).2.2 | (with_reducible refine Kd.C_alloc ?_ _) | (with_reducible refine Kd.C_drewN ?_ _) | (with_reducible refine Kd.C_drew ?_))); (case side2 => exact (Kd.R_reads' HO_5.out).2.1); rintro e w59 ⟨rfl, hb⟩; have n0_ := Aside0.mk (Kd.R_below (by (with_reducible repeat (first | apply Kd.R_alloc | apply Kd.R_drewN | apply Kd.R_drew)); exact HO_5.out) hb); have n1_ := Aside0.mk (blk_below (g := gb365) (o := .cells #[.int .i64 a1_0, .int .i64 a1_1] 23 (0, 0)) (by (with_reducible repeat (first | refine blk_drewN ?_ _ | refine blk_drew ?_ | refine blk_alloc ?_ _)); exact BK365.out) hb); have n2_ := Aside0.mk (below_step (by repeat (first | (with_reducible first | exact HB.out | apply below_alloc | apply pw_below_drewN | apply below_drew1 | refine below_set ?_ GE365.out) | exact HB.out)) hb); clear HO_5; clear BK365; clear HB; have HO_5 := n0_; have BK365 := n1_; have HB := n2_; clear n0_ n1_ n2_; (try clear hb); (try clear hb2); (try clear hk); (try clear hi)) | (go_at_call 19; (with_reducible refine (tickinglaw06_awake.calls kj8  t386 _ A57.out).mono ?_); rintro e w60 ⟨rfl, hb⟩; have n0_ := Aside0.mk (Kd.R_below (by (with_reducible repeat (first | apply Kd.R_alloc | apply Kd.R_drewN | apply Kd.R_drew)); exact HO_5.out) hb); have n1_ := Aside0.mk (blk_below (g := gb365) (o := .cells #[.int .i64 a1_0, .int .i64 a1_1] 23 (0, 0)) (by (with_reducible repeat (first | refine blk_drewN ?_ _ | refine blk_drew ?_ | refine blk_alloc ?_ _)); exact BK365.out) hb); have n2_ := Aside0.mk (below_step (by repeat (first | (with_reducible first | exact HB.out | apply below_alloc | apply pw_below_drewN | apply below_drew1 | refine below_set ?_ GE365.out) | exact HB.out)) hb); clear HO_5; clear BK365; clear HB; have HO_5 := n0_; have BK365 := n1_; have HB := n2_; clear n0_ n1_ n2_; (try clear hb); (try clear hb2); (try clear hk); (try clear hi))))
          go_ret
          exact ⟨by first | rfl | (simp [errW_none, errW_some] <;> rfl) | (simp [*, errW_none, errW_some] <;> rfl), by repeat (first | (with_reducible first | exact HB.out | apply below_alloc | apply pw_below_drewN | apply below_drew1 | refine below_set ?_ GE365.out) | exact HB.out)⟩
        ·rw [if_neg c53] at H
         have c53b0 : (t381 == 0) = false := beq_eq_false_iff_ne.mpr c53
         have c53b1 : (t381 != 0) = true := bne_iff_ne.mpr c53
         replace H := Option.bind_eq_some_iff.mp H
         obtain ⟨t387, A610, H⟩ := H
         replace H : (some t387) = some r := H
         have A61 := Aside0.mk A610
         clear A610
         obtain rfl := Option.some.inj H
         have p377 : 0 ≤ (t369 : Int) := of_decide_eq_true (by first | (with_reducible assumption) | assumption)
         have q377 : t369 < (t366.length : Int) := of_decide_eq_true (by first | (with_reducible assumption) | assumption)
         obtain ⟨ad377, e377, hx377_0, hx377_1, hx377_2⟩ := at_T39 (Kd.R_reads' HO_5.out).2.2 t369 p377 q377
         cases e377
         replace p377 := eq_true p377
         replace q377 := eq_true q377
         have p379 : 0 ≤ (t369 : Int) := of_decide_eq_true (by first | (with_reducible assumption) | assumption)
         have q379 : t369 < (t366.length : Int) := of_decide_eq_true (by first | (with_reducible assumption) | assumption)
         obtain ⟨ad379, e379, hx379_0, hx379_1, hx379_2⟩ := at_T39 (Kd.R_reads' HO_5.out).2.2 t369 p379 q379
         obtain rfl : ad377 = ad379 := (by injection e379)
         replace p379 := eq_true p379
         replace q379 := eq_true q379
         go_wp2_with (first | (go_at_call 28; (with_reducible refine (loops_Depth.calls kj8 _ _ t366 ((rd_T39 t366 t369).f1) t380 t381 _ ?side1 ?side2 A33.out).mono ?_); (case side1 => repeat (first | exact (Kd.R_reads' HO_5.out).2.2 | (with_reducible refine Kd.C_alloc ?_ _) | (with_reducible refine Kd.C_drewN ?_ _) | (with_reducible refine Kd.C_drew ?_))); (case side2 => exact (Kd.R_reads' HO_5.out).2.1); rintro e w62 ⟨rfl, hb⟩; have n0_ := Aside0.mk (Kd.R_below (by (with_reducible repeat (first | apply Kd.R_alloc | apply Kd.R_drewN | apply Kd.R_drew)); exact HO_5.out) hb); have n1_ := Aside0.mk (blk_below (g := gb365) (o := .cells #[.int .i64 a1_0, .int .i64 a1_1] 23 (0, 0)) (by (with_reducible repeat (first | refine blk_drewN ?_ _ | refine blk_drew ?_ | refine blk_alloc ?_ _)); exact BK365.out) hb); have n2_ := Aside0.mk (below_step (by repeat (first | (with_reducible first | exact HB.out | apply below_alloc | apply pw_below_drewN | apply below_drew1 | refine below_set ?_ GE365.out) | exact HB.out)) hb); clear HO_5; clear BK365; clear HB; have HO_5 := n0_; have BK365 := n1_; have HB := n2_; clear n0_ n1_ n2_; (try clear hb); (try clear hb2); (try clear hk); (try clear hi); have p382 : 0 ≤ (t369 : Int) := of_decide_eq_true (by first | (with_reducible assumption) | assumption); have q382 : t369 < (t366.length : Int) := of_decide_eq_true (by first | (with_reducible assumption) | assumption); obtain ⟨ad382, e382, hx382_0, hx382_1, hx382_2⟩ := at_T39 (Kd.R_reads' HO_5.out).2.2 t369 p382 q382; obtain rfl : ad377 = ad382 := (by injection e382); replace p382 := eq_true p382; replace q382 := eq_true q382) | (go_at_call 28; (with_reducible refine (loops_Depth.calls kj8 _ _ t366 ((rd_T39 t366 t369).f2) t383 t384 _ ?side1 ?side2 A34.out).mono ?_); (case side1 => repeat (first | exact (Kd.R_reads' HO_5.out).2.2 | (with_reducible refine Kd.C_alloc ?_ _) | (with_reducible refine Kd.C_drewN ?_ _) | (with_reducible refine Kd.C_drew ?_))); (case side2 => exact (Kd.R_reads' HO_5.out).2.1); rintro e w63 ⟨rfl, hb⟩; have n0_ := Aside0.mk (Kd.R_below (by (with_reducible repeat (first | apply Kd.R_alloc | apply Kd.R_drewN | apply Kd.R_drew)); exact HO_5.out) hb); have n1_ := Aside0.mk (blk_below (g := gb365) (o := .cells #[.int .i64 a1_0, .int .i64 a1_1] 23 (0, 0)) (by (with_reducible repeat (first | refine blk_drewN ?_ _ | refine blk_drew ?_ | refine blk_alloc ?_ _)); exact BK365.out) hb); have n2_ := Aside0.mk (below_step (by repeat (first | (with_reducible first | exact HB.out | apply below_alloc | apply pw_below_drewN | apply below_drew1 | refine below_set ?_ GE365.out) | exact HB.out)) hb); clear HO_5; clear BK365; clear HB; have HO_5 := n0_; have BK365 := n1_; have HB := n2_; clear n0_ n1_ n2_; (try clear hb); (try clear hb2); (try clear hk); (try clear hi)) | (go_at_call 19; (with_reducible refine (tickinglaw06_awake.calls kj8  t387 _ A61.out).mono ?_); rintro e w64 ⟨rfl, hb⟩; have n0_ := Aside0.mk (Kd.R_below (by (with_reducible repeat (first | apply Kd.R_alloc | apply Kd.R_drewN | apply Kd.R_drew)); exact HO_5.out) hb); have n1_ := Aside0.mk (blk_below (g := gb365) (o := .cells #[.int .i64 a1_0, .int .i64 a1_1] 23 (0, 0)) (by (with_reducible repeat (first | refine blk_drewN ?_ _ | refine blk_drew ?_ | refine blk_alloc ?_ _)); exact BK365.out) hb); have n2_ := Aside0.mk (below_step (by repeat (first | (with_reducible first | exact HB.out | apply below_alloc | apply pw_below_drewN | apply below_drew1 | refine below_set ?_ GE365.out) | exact HB.out)) hb); clear HO_5; clear BK365; clear HB; have HO_5 := n0_; have BK365 := n1_; have HB := n2_; clear n0_ n1_ n2_; (try clear hb); (try clear hb2); (try clear hk); (try clear hi)))
         repeat (go_quiet (first | (go_at_call 28; (with_reducible refine (loops_Depth.calls kj8 _ _ t366 ((rd_T39 t366 t369).f1) t380 t381 _ ?side1 ?side2 A33.out).mono ?_); (case side1 => repeat (first | exact (Kd.R_reads' HO_5.out).2.2 | (with_reducible refine Kd.C_alloc ?_ _) | (with_reducible refine Kd.C_drewN ?_ _) | (with_reducible refine Kd.C_drew ?_))); (case side2 => exact (Kd.R_reads' HO_5.out).2.1); rintro e w62 ⟨rfl, hb⟩; have n0_ := Aside0.mk (Kd.R_below (by (with_reducible repeat (first | apply Kd.R_alloc | apply Kd.R_drewN | apply Kd.R_drew)); exact HO_5.out) hb); have n1_ := Aside0.mk (blk_below (g := gb365) (o := .cells #[.int .i64 a1_0, .int .i64 a1_1] 23 (0, 0)) (by (with_reducible repeat (first | refine blk_drewN ?_ _ | refine blk_drew ?_ | refine blk_alloc ?_ _)); exact BK365.out) hb); have n2_ := Aside0.mk (below_step (by repeat (first | (with_reducible first | exact HB.out | apply below_alloc | apply pw_below_drewN | apply below_drew1 | refine below_set ?_ GE365.out) | exact HB.out)) hb); clear HO_5; clear BK365; clear HB; have HO_5 := n0_; have BK365 := n1_; have HB := n2_; clear n0_ n1_ n2_; (try clear hb); (try clear hb2); (try clear hk); (try clear hi); have p382 : 0 ≤ (t369 : Int) := of_decide_eq_true (by first | (with_reducible assumption) | assumption); have q382 : t369 < (t366.length : Int) := of_decide_eq_true (by first | (with_reducible assumption) | assumption); obtain ⟨ad382, e382, hx382_0, hx382_1, hx382_2⟩ := at_T39 (Kd.R_reads' HO_5.out).2.2 t369 p382 q382; obtain rfl : ad377 = ad382 := (by injection e382); replace p382 := eq_true p382; replace q382 := eq_true q382) | (go_at_call 28; (with_reducible refine (loops_Depth.calls kj8 _ _ t366 ((rd_T39 t366 t369).f2) t383 t384 _ ?side1 ?side2 A34.out).mono ?_); (case side1 => repeat (first | exact (Kd.R_reads' HO_5.out).2.2 | (with_reducible refine Kd.C_alloc ?_ _) | (with_reducible refine Kd.C_drewN ?_ _) | (with_reducible refine Kd.C_drew ?_))); (case side2 => exact (Kd.R_reads' HO_5.out).2.1); rintro e w63 ⟨rfl, hb⟩; have n0_ := Aside0.mk (Kd.R_below (by (with_reducible repeat (first | apply Kd.R_alloc | apply Kd.R_drewN | apply Kd.R_drew)); exact HO_5.out) hb); have n1_ := Aside0.mk (blk_below (g := gb365) (o := .cells #[.int .i64 a1_0, .int .i64 a1_1] 23 (0, 0)) (by (with_reducible repeat (first | refine blk_drewN ?_ _ | refine blk_drew ?_ | refine blk_alloc ?_ _)); exact BK365.out) hb); have n2_ := Aside0.mk (below_step (by repeat (first | (with_reducible first | exact HB.out | apply below_alloc | apply pw_below_drewN | apply below_drew1 | refine below_set ?_ GE365.out) | exact HB.out)) hb); clear HO_5; clear BK365; clear HB; have HO_5 := n0_; have BK365 := n1_; have HB := n2_; clear n0_ n1_ n2_; (try clear hb); (try clear hb2); (try clear hk); (try clear hi)) | (go_at_call 19; (with_reducible refine (tickinglaw06_awake.calls kj8  t387 _ A61.out).mono ?_); rintro e w64 ⟨rfl, hb⟩; have n0_ := Aside0.mk (Kd.R_below (by (with_reducible repeat (first | apply Kd.R_alloc | apply Kd.R_drewN | apply Kd.R_drew)); exact HO_5.out) hb); have n1_ := Aside0.mk (blk_below (g := gb365) (o := .cells #[.int .i64 a1_0, .int .i64 a1_1] 23 (0, 0)) (by (with_reducible repeat (first | refine blk_drewN ?_ _ | refine blk_drew ?_ | refine blk_alloc ?_ _)); exact BK365.out) hb); have n2_ := Aside0.mk (below_step (by repeat (first | (with_reducible first | exact HB.out | apply below_alloc | apply pw_below_drewN | apply below_drew1 | refine below_set ?_ GE365.out) | exact HB.out)) hb); clear HO_5; clear BK365; clear HB; have HO_5 := n0_; have BK365 := n1_; have HB := n2_; clear n0_ n1_ n2_; (try clear hb); (try clear hb2); (try clear hk); (try clear hi))); try go_wp2_with (first | (go_at_call 28; (with_reducible refine (loops_Depth.calls kj8 _ _ t366 ((rd_T39 t366 t369).f1) t380 t381 _ ?side1 ?side2 A33.out).mono ?_); (case side1 => repeat (first | exact (Kd.R_reads' HO_5.out).2.2 | (with_reducible refine Kd.C_alloc ?_ _) | (with_reducible refine Kd.C_drewN ?_ _) | (with_reducible refine Kd.C_drew ?_))); (case side2 => exact (Kd.R_reads' HO_5.out).2.1); rintro e w62 ⟨rfl, hb⟩; have n0_ := Aside0.mk (Kd.R_below (by (with_reducible repeat (first | apply Kd.R_alloc | apply Kd.R_drewN | apply Kd.R_drew)); exact HO_5.out) hb); have n1_ := Aside0.mk (blk_below (g := gb365) (o := .cells #[.int .i64 a1_0, .int .i64 a1_1] 23 (0, 0)) (by (with_reducible repeat (first | refine blk_drewN ?_ _ | refine blk_drew ?_ | refine blk_alloc ?_ _)); exact BK365.out) hb); have n2_ := Aside0.mk (below_step (by repeat (first | (with_reducible first | exact HB.out | apply below_alloc | apply pw_below_drewN | apply below_drew1 | refine below_set ?_ GE365.out) | exact HB.out)) hb); clear HO_5; clear BK365; clear HB; have HO_5 := n0_; have BK365 := n1_; have HB := n2_; clear n0_ n1_ n2_; (try clear hb); (try clear hb2); (try clear hk); (try clear hi); have p382 : 0 ≤ (t369 : Int) := of_decide_eq_true (by first | (with_reducible assumption) | assumption); have q382 : t369 < (t366.length : Int) := of_decide_eq_true (by first | (with_reducible assumption) | assumption); obtain ⟨ad382, e382, hx382_0, hx382_1, hx382_2⟩ := at_T39 (Kd.R_reads' HO_5.out).2.2 t369 p382 q382; obtain rfl : ad377 = ad382 := (by injection e382); replace p382 := eq_true p382; replace q382 := eq_true q382) | (go_at_call 28; (with_reducible refine (loops_Depth.calls kj8 _ _ t366 ((rd_T39 t366 t369).f2) t383 t384 _ ?side1 ?side2 A34.out).mono ?_); (case side1 => repeat (first | exact (Kd.R_reads' HO_5.out).2.2 | (with_reducible refine Kd.C_alloc ?_ _) | (with_reducible refine Kd.C_drewN ?_ _) | (with_reducible refine Kd.C_drew ?_))); (case side2 => exact (Kd.R_reads' HO_5.out).2.1); rintro e w63 ⟨rfl, hb⟩; have n0_ := Aside0.mk (Kd.R_below (by (with_reducible repeat (first | apply Kd.R_alloc | apply Kd.R_drewN | apply Kd.R_drew)); exact HO_5.out) hb); have n1_ := Aside0.mk (blk_below (g := gb365) (o := .cells #[.int .i64 a1_0, .int .i64 a1_1] 23 (0, 0)) (by (with_reducible repeat (first | refine blk_drewN ?_ _ | refine blk_drew ?_ | refine blk_alloc ?_ _)); exact BK365.out) hb); have n2_ := Aside0.mk (below_step (by repeat (first | (with_reducible first | exact HB.out | apply below_alloc | apply pw_below_drewN | apply below_drew1 | refine below_set ?_ GE365.out) | exact HB.out)) hb); clear HO_5; clear BK365; clear HB; have HO_5 := n0_; have BK365 := n1_; have HB := n2_; clear n0_ n1_ n2_; (try clear hb); (try clear hb2); (try clear hk); (try clear hi)) | (go_at_call 19; (with_reducible refine (tickinglaw06_awake.calls kj8  t387 _ A61.out).mono ?_); rintro e w64 ⟨rfl, hb⟩; have n0_ := Aside0.mk (Kd.R_below (by (with_reducible repeat (first | apply Kd.R_alloc | apply Kd.R_drewN | apply Kd.R_drew)); exact HO_5.out) hb); have n1_ := Aside0.mk (blk_below (g := gb365) (o := .cells #[.int .i64 a1_0, .int .i64 a1_1] 23 (0, 0)) (by (with_reducible repeat (first | refine blk_drewN ?_ _ | refine blk_drew ?_ | refine blk_alloc ?_ _)); exact BK365.out) hb); have n2_ := Aside0.mk (below_step (by repeat (first | (with_reducible first | exact HB.out | apply below_alloc | apply pw_below_drewN | apply below_drew1 | refine below_set ?_ GE365.out) | exact HB.out)) hb); clear HO_5; clear BK365; clear HB; have HO_5 := n0_; have BK365 := n1_; have HB := n2_; clear n0_ n1_ n2_; (try clear hb); (try clear hb2); (try clear hk); (try clear hi))))
         go_ret
         exact ⟨by first | rfl | (simp [errW_none, errW_some] <;> rfl) | (simp [*, errW_none, errW_some] <;> rfl), by repeat (first | (with_reducible first | exact HB.out | apply below_alloc | apply pw_below_drewN | apply below_drew1 | refine below_set ?_ GE365.out) | exact HB.out)⟩
     ·rw [if_neg c27] at H
      exact absurd H (by simp)
    ·rw [if_neg c26] at H
     exact absurd H (by simp)
end Go.Proofs.Ytnfmeafiaipplaa.S

namespace Go.Proofs.Ytnfmeafiaipplaa.P
open Go.RowKit Go.Proofs.YtnfmeafiaipplaaW.PrintWords

theorem w64 {x : Int} (h0 : -9223372036854775808 ≤ x) (h1 : x ≤ 9223372036854775807) : wrap64 x = x := by
 unfold wrap64
 omega
theorem rd_nat (l : List Int) (i : Nat) : rd l (i : Int) = l.getD i 0 := by
 unfold rd
 rw [show ((i : Int)).toNat = i by omega]
theorem rd_lt (l : List Int) (i : Nat) (h : i < l.length) : rd l (i : Int) = l[i] := by
 rw [rd_nat, List.getD_eq_getElem?_getD, List.getElem?_eq_getElem h, Option.getD_some]
theorem nodup_len : ∀ (n : Nat) (l : List Int) (lo : Int), l.Nodup → (∀ a ∈ l, lo < a ∧ a ≤ lo + n) → l.length ≤ n
 | 0, l, lo, _, h => by
  cases l with
  | nil => simp
  | cons a t => have := h a (by simp); omega
 | n + 1, l, lo, hd, h => by
  have h1 := nodup_len n (l.erase (lo + 1)) (lo + 1) (hd.erase _) (fun a ha => by
   have hm := List.mem_of_mem_erase ha
   have hne : a ≠ lo + 1 := fun e => by
    subst e
    exact (List.Nodup.not_mem_erase hd) ha
   have := h a hm
   omega)
  have h2 : l.length ≤ (l.erase (lo + 1)).length + 1 := by
   rw [List.length_erase]
   split <;> omega
  omega
end Go.Proofs.Ytnfmeafiaipplaa.P

namespace Go.Proofs.Ytnfmeafiaipplaa.P
open Go.RowKit Go.Proofs.Ytnfmeafiaipplaa.S Go.Proofs.YtnfmeafiaipplaaW.PrintWords
set_option linter.unusedVariables false

/-- A node of a list, by its position. -/
abbrev nd (t : List S39) (i : Int) : S39 := rd_T39 t i
inductive T where
 | leaf (k : Int)
 | node (k : Int) (a b : T)
 deriving DecidableEq
/-- What a node shows down to a depth. -/
def tr (t : List S39) : Nat → Int → T
 | 0, i => .leaf (nd t i).f0
 | d + 1, i => if 4 ≤ (nd t i).f0 then .node (nd t i).f0 (tr t d (nd t i).f1) (tr t d (nd t i).f2) else .leaf (nd t i).f0
def okN (t : List S39) (i : Int) : Prop :=
 (0 ≤ (nd t i).f0 ∧ (nd t i).f0 ≤ 5) ∧ ((nd t i).f0 < 4 → (nd t i).f1 = 0 ∧ (nd t i).f2 = 0) ∧ (0 ≤ (nd t i).f1 ∧ (nd t i).f1 < t.length) ∧ (0 ≤ (nd t i).f2 ∧ (nd t i).f2 < t.length)
instance (t : List S39) (i : Int) : Decidable (okN t i) := by unfold okN; infer_instance
/-- Types: not empty, every node in order. -/
def IsTy (t : List S39) : Prop := 1 ≤ t.length ∧ ∀ i : Int, 0 ≤ i → i < t.length → okN t i
theorem T.kind_node {k k' : Int} {a b a' b' : T} (h : T.node k a b = T.node k' a' b') : k = k' ∧ a = a' ∧ b = b' := by
 injection h with h1 h2 h3
 exact ⟨h1, h2, h3⟩
theorem tr_kind {t t' : List S39} {d : Nat} {i j : Int} (h : tr t d i = tr t' d j) : (nd t i).f0 = (nd t' j).f0 := by
 cases d with
 | zero => injection h
 | succ d =>
  unfold tr at h
  split at h <;> split at h
  ·exact (T.kind_node h).1
  ·cases h
  ·cases h
  ·injection h
/-- Two nodes stand for the same tree. -/
def Same (t : List S39) (i : Int) (t' : List S39) (j : Int) : Prop := ∀ d, tr t d i = tr t' d j
theorem Same.refl (t : List S39) (i : Int) : Same t i t i := fun _ => rfl
theorem Same.symm {t t' : List S39} {i j : Int} (h : Same t i t' j) : Same t' j t i := fun d => (h d).symm
theorem Same.trans {t t' t'' : List S39} {i j k : Int} (h : Same t i t' j) (h' : Same t' j t'' k) : Same t i t'' k := fun d => (h d).trans (h' d)
theorem same_iff {t t' : List S39} {i j : Int} : Same t i t' j ↔ (nd t i).f0 = (nd t' j).f0 ∧ (4 ≤ (nd t i).f0 → Same t (nd t i).f1 t' (nd t' j).f1 ∧ Same t (nd t i).f2 t' (nd t' j).f2) := by
 constructor
 ·intro h
  have hk := tr_kind (h 0)
  refine ⟨hk, fun c => ?_⟩
  have hh : ∀ d, tr t d (nd t i).f1 = tr t' d (nd t' j).f1 ∧ tr t d (nd t i).f2 = tr t' d (nd t' j).f2 := fun d => by
   have := h (d + 1)
   rw [show tr t (d + 1) i = .node (nd t i).f0 (tr t d (nd t i).f1) (tr t d (nd t i).f2) from if_pos c, show tr t' (d + 1) j = .node (nd t' j).f0 (tr t' d (nd t' j).f1) (tr t' d (nd t' j).f2) from if_pos (by rw [← hk]; exact c)] at this
   exact (T.kind_node this).2
  exact ⟨fun d => (hh d).1, fun d => (hh d).2⟩
 ·rintro ⟨hk, h⟩ d
  cases d with
  | zero => unfold tr; rw [hk]
  | succ d =>
   unfold tr
   by_cases c : 4 ≤ (nd t i).f0
   ·rw [if_pos c, if_pos (by rw [← hk]; exact c), hk, (h c).1 d, (h c).2 d]
   ·rw [if_neg c, if_neg (by rw [← hk]; exact c), hk]
/-- Whatever is closed holds of the same trees alone. -/
theorem same_closed {t t' : List S39} (R : Int → Int → Prop) (hR : ∀ i j, R i j → (nd t i).f0 = (nd t' j).f0 ∧ (4 ≤ (nd t i).f0 → R (nd t i).f1 (nd t' j).f1 ∧ R (nd t i).f2 (nd t' j).f2)) : ∀ i j, R i j → Same t i t' j := by
 intro i j h d
 induction d generalizing i j with
 | zero => unfold tr; rw [(hR i j h).1]
 | succ d ih =>
  obtain ⟨hk, hp⟩ := hR i j h
  unfold tr
  by_cases c : 4 ≤ (nd t i).f0
  ·rw [if_pos c, if_pos (by rw [← hk]; exact c), hk, ih _ _ (hp c).1, ih _ _ (hp c).2]
  ·rw [if_neg c, if_neg (by rw [← hk]; exact c), hk]
noncomputable def sameB (t : List S39) (i j : Int) : Bool := @decide (Same t i t j) (Classical.propDecidable _)
theorem sameB_iff {t : List S39} {i j : Int} : sameB t i j = true ↔ Same t i t j := by
 unfold sameB
 exact @decide_eq_true_iff _ (Classical.propDecidable _)

theorem w64s {j : Nat} (h : j ≤ 1000000) : wrap64 ((j : Int) + 1) = ((j + 1 : Nat) : Int) := by
 rw [w64 (by omega) (by omega)]
 rfl
theorem cast0 (k : Nat) : (0 : Int) ≤ (k : Int) := Int.natCast_nonneg k
theorem castlt {a b : Nat} (h : a < b) : (a : Int) < (b : Int) := Int.ofNat_lt.2 h
section
variable {t : List S39} (hv : ∀ i : Int, 0 ≤ i → i < t.length → okN t i) (hn : t.length ≤ 1000)
include hv hn

omit hv hn in
omit hv in
omit hv in
end
end Go.Proofs.Ytnfmeafiaipplaa.P

namespace Go.Proofs.Ytnfmeafiaipplaa.P
open Go.RowKit Go.Proofs.Ytnfmeafiaipplaa.S Go.Proofs.Ytnfmeafiaipplaa.Lib Go.Proofs.YtnfmeafiaipplaaW.PrintWords
set_option linter.unusedVariables false
set_option linter.unusedSectionVars false

section
variable {α : Type} [DecidableEq α]
theorem numIx_lt {fs : List α} {x : α} (h : x ∈ fs) : numIx fs x < fs.length := List.idxOf_lt_length_of_mem h
theorem numIx_get {fs : List α} {x : α} (h : x ∈ fs) : fs[numIx fs x]'(numIx_lt h) = x := List.getElem_idxOf (numIx_lt h)
theorem numIx_inj {fs : List α} {x y : α} (hx : x ∈ fs) (hy : y ∈ fs) (h : numIx fs x = numIx fs y) : x = y := by
 have h1 := numIx_get hx
 have h2 := numIx_get hy
 rw [← h1, ← h2]
 simp [h]
theorem numGo_spec : ∀ (ks ds : List α) (out : List Int), ds.Nodup → ∃ fs : List α, fs.Nodup ∧ (∀ x ∈ ds, x ∈ fs ∧ numIx fs x = numIx ds x) ∧ (∀ x ∈ ks, x ∈ fs) ∧ (∀ x ∈ fs, x ∈ ds ∨ x ∈ ks) ∧ numGo ks ds out = (out ++ ks.map (fun x => (numIx fs x : Int)), (fs.length : Int))
 | [], ds, out, h => ⟨ds, h, fun x hx => ⟨hx, rfl⟩, fun x hx => by simp at hx, fun x hx => .inl hx, by simp [numGo]⟩
 | k :: ks, ds, out, h => by
  have hd : (numStep ds k).Nodup := by
   unfold numStep
   split
   ·exact h
   ·rename_i hk
    exact List.nodup_append.2 ⟨h, by simp, fun a ha b hb => by simp at hb; subst hb; exact fun e => hk (e ▸ ha)⟩
  have hk : k ∈ numStep ds k := by
   unfold numStep
   split
   ·assumption
   ·simp
  have hold : ∀ x ∈ ds, x ∈ numStep ds k ∧ numIx (numStep ds k) x = numIx ds x := fun x hx => by
   unfold numStep
   split
   ·exact ⟨hx, rfl⟩
   ·exact ⟨by simp [hx], numIx_old k hx⟩
  obtain ⟨fs, f1, f2, f3, f4, f5⟩ := numGo_spec ks (numStep ds k) (out ++ [(numIx (numStep ds k) k : Int)]) hd
  refine ⟨fs, f1, fun x hx => ?_, fun x hx => ?_, fun x hx => ?_, ?_⟩
  ·obtain ⟨g1, g2⟩ := hold x hx
   exact ⟨(f2 x g1).1, (f2 x g1).2.trans g2⟩
  ·rcases List.mem_cons.1 hx with rfl | hx
   ·exact (f2 x hk).1
   ·exact f3 x hx
  ·rcases f4 x hx with h' | h'
   ·unfold numStep at h'
    split at h'
    ·exact .inl h'
    ·rcases List.mem_append.1 h' with h' | h'
     ·exact .inl h'
     ·simp at h'
      exact .inr (by simp [h'])
   ·exact .inr (by simp [h'])
  ·unfold numGo
   rw [f5, List.map_cons, (f2 k hk).2]
   simp
theorem dup_exists {L : List α} (h : ¬ L.Nodup) : ∃ x, x ∈ L.erase x := by
 induction L with
 | nil => exact absurd List.nodup_nil h
 | cons a L ih =>
  by_cases ha : a ∈ L
  ·exact ⟨a, by rw [List.erase_cons_head]; exact ha⟩
  ·have : ¬ L.Nodup := fun hn => h (List.nodup_cons.2 ⟨ha, hn⟩)
   obtain ⟨x, hx⟩ := ih this
   have hxa : x ≠ a := fun e => ha (e ▸ List.mem_of_mem_erase hx)
   refine ⟨x, ?_⟩
   rw [List.erase_cons_tail (by simpa using Ne.symm hxa)]
   exact List.mem_cons_of_mem _ hx
theorem nodup_sub_len : ∀ {R L : List α}, R.Nodup → (∀ x ∈ R, x ∈ L) → R.length ≤ L.length
 | [], _, _, _ => by simp
 | a :: R, L, hn, hs => by
  have ha : a ∈ L := hs a (by simp)
  have h1 := nodup_sub_len (R := R) (L := L.erase a) (List.nodup_cons.1 hn).2 (fun x hx => by
   have hxa : x ≠ a := fun e => (List.nodup_cons.1 hn).1 (e ▸ hx)
   exact (List.mem_erase_of_ne hxa).2 (hs x (by simp [hx])))
  rw [List.length_erase_of_mem ha] at h1
  have : 0 < L.length := List.length_pos_of_mem ha
  simp
  omega
end
theorem nodup_range_int (m : Nat) : ((List.range m).map (fun c : Nat => (c : Int))).Nodup := by
 rw [List.Nodup, List.pairwise_map]
 exact List.nodup_range.imp (fun h e => h (by omega))
/-- A list of m that has all the numbers below m has none twice. -/
theorem full_nodup {L : List Int} {m : Nat} (hl : L.length = m) (hf : ∀ c : Nat, c < m → (c : Int) ∈ L) : L.Nodup := by
 apply Classical.byContradiction
 intro hn
 obtain ⟨x, hx⟩ := dup_exists hn
 have hxL := List.mem_of_mem_erase hx
 have := nodup_sub_len (R := (List.range m).map (fun c : Nat => (c : Int))) (L := L.erase x) (nodup_range_int m) (fun y hy => by
  obtain ⟨c, hc, rfl⟩ := List.mem_map.1 hy
  have := hf c (List.mem_range.1 hc)
  by_cases e : (c : Int) = x
  ·rw [e]; exact hx
  ·exact (List.mem_erase_of_ne e).2 this)
 rw [List.length_erase_of_mem hxL] at this
 have h0 : 0 < L.length := List.length_pos_of_mem hxL
 simp at this
 omega
theorem full_len {L : List Int} {m : Nat} (hf : ∀ c : Nat, c < m → (c : Int) ∈ L) : m ≤ L.length := by
 have := nodup_sub_len (R := (List.range m).map (fun c : Nat => (c : Int))) (L := L) (nodup_range_int m) (fun y hy => by
  obtain ⟨c, hc, rfl⟩ := List.mem_map.1 hy
  exact hf c (List.mem_range.1 hc))
 simpa using this
theorem map_nodup_inj {α : Type} {f : α → Int} : ∀ {l : List α}, (l.map f).Nodup → ∀ x ∈ l, ∀ y ∈ l, f x = f y → x = y
 | [], _, x, hx, _, _, _ => by simp at hx
 | a :: l, h, x, hx, y, hy, e => by
  rw [List.map_cons, List.nodup_cons] at h
  rcases List.mem_cons.1 hx with hx1 | hx1 <;> rcases List.mem_cons.1 hy with hy1 | hy1
  ·rw [hx1, hy1]
  ·exact absurd (List.mem_map.2 ⟨y, hy1, by rw [← e, hx1]⟩) h.1
  ·exact absurd (List.mem_map.2 ⟨x, hx1, by rw [e, hy1]⟩) h.1
  ·exact map_nodup_inj h.2 x hx1 y hy1 e
section
variable {t : List S39} (hv : ∀ i : Int, 0 ≤ i → i < t.length → okN t i) (hn : t.length ≤ 1000)
include hv hn

/-- Numbers of nodes, as far as they have come. -/
structure ClsI (t : List S39) (out : List Int) (m : Nat) : Prop where
 len : out.length = t.length
 rng : ∀ i : Nat, i < t.length → 0 ≤ rd out i ∧ rd out i < m
 onto : ∀ c : Nat, c < m → ∃ i : Nat, i < t.length ∧ rd out i = c
 same : ∀ i j : Nat, i < t.length → j < t.length → Same t i t j → rd out i = rd out j
 kind : ∀ i j : Nat, i < t.length → j < t.length → rd out i = rd out j → (nd t i).f0 = (nd t j).f0
omit hv hn in
/-- Numbers by keys. -/
theorem rd_map {α : Type} (ks : List α) (f : α → Int) (d : α) (i : Nat) (h : i < ks.length) : rd (ks.map f) (i : Int) = f (ks.getD i d) := by
 rw [rd_lt _ i (by simpa using h), List.getElem_map, List.getD_eq_getElem?_getD, List.getElem?_eq_getElem h, Option.getD_some]
def keyC (t : List S39) (out : List Int) (i : Int) : S98 := if 4 ≤ (nd t i).f0 then ⟨rd out i, (nd t i).f0, rd out (nd t i).f1, rd out (nd t i).f2⟩ else ⟨rd out i, (nd t i).f0, 0, 0⟩
def keysC (t : List S39) (out : List Int) : List S98 := (List.range t.length).map (fun i : Nat => keyC t out i)
omit hn in
theorem l98_key {out : List Int} {i j : Nat} (hi : i < t.length) (hj : j < t.length) : l98 (keyC t out i) = l98 (keyC t out j) ↔ (rd out i = rd out j ∧ (nd t i).f0 = (nd t j).f0 ∧ (4 ≤ (nd t i).f0 → rd out (nd t i).f1 = rd out (nd t j).f1 ∧ rd out (nd t i).f2 = rd out (nd t j).f2)) := by
 unfold keyC l98
 by_cases c : 4 ≤ (nd t i).f0 <;> by_cases c' : 4 ≤ (nd t j).f0
 ·simp [c, c']
 ·simp only [if_pos c, if_neg c']
  constructor
  ·intro h; simp at h; omega
  ·rintro ⟨_, h, _⟩; omega
 ·simp only [if_neg c, if_pos c']
  constructor
  ·intro h; simp at h; omega
  ·rintro ⟨_, h, _⟩; omega
 ·simp [c, c']
theorem key_i98 {out : List Int} {m : Nat} (hm : m ≤ 1000) (h : ClsI t out m) {i : Nat} (hi : i < t.length) : i98B (keyC t out i) = true := by
 have h1 := h.rng i hi
 obtain ⟨⟨k0, k1⟩, _, ⟨a0, a1⟩, ⟨b0, b1⟩⟩ := hv i (by omega) (by omega)
 have h2 := h.rng (nd t i).f1.toNat (by omega)
 have h3 := h.rng (nd t i).f2.toNat (by omega)
 rw [Int.toNat_of_nonneg a0] at h2
 rw [Int.toNat_of_nonneg b0] at h3
 unfold i98B keyC l98 i64B
 split
 ·simp only [List.all_cons, List.all_nil, Bool.and_true, Bool.and_eq_true, decide_eq_true_eq]
  refine ⟨by omega, by omega, by omega, by omega⟩
 ·simp only [List.all_cons, List.all_nil, Bool.and_true, Bool.and_eq_true, decide_eq_true_eq]
  refine ⟨by omega, by omega, by omega, by omega⟩
/-- One refinement. -/
theorem cls_next {out : List Int} {m : Nat} (h : ClsI t out m) : ∃ (nx : List Int) (m' : Nat), numGo ((keysC t out).map l98) [] [] = (nx, (m' : Int)) ∧ ClsI t nx m' ∧ m ≤ m' ∧ m' ≤ t.length ∧
  (m' = m → ∀ i j : Nat, i < t.length → j < t.length → (rd nx i = rd nx j ↔ Same t i t j)) := by
 obtain ⟨fs, f1, _, f3, f4, f5⟩ := numGo_spec ((keysC t out).map l98) [] [] List.nodup_nil
 have hkl : ((keysC t out).map l98).length = t.length := by simp [keysC]
 have hkg : ∀ i : Nat, i < t.length → ((keysC t out).map l98).getD i [] = l98 (keyC t out i) := fun i hi => by
  rw [List.getD_eq_getElem?_getD, List.getElem?_eq_getElem (by simpa [keysC] using hi)]
  simp [keysC]
 have hmem : ∀ i : Nat, i < t.length → l98 (keyC t out i) ∈ fs := fun i hi => f3 _ (List.mem_map.2 ⟨_, List.mem_map.2 ⟨i, List.mem_range.2 hi, rfl⟩, rfl⟩)
 have hfs : ∀ x ∈ fs, ∃ i : Nat, i < t.length ∧ x = l98 (keyC t out i) := fun x hx => by
  rcases f4 x hx with h' | h'
  ·simp at h'
  ·obtain ⟨y, hy, rfl⟩ := List.mem_map.1 h'
   obtain ⟨i, hi, rfl⟩ := List.mem_map.1 hy
   exact ⟨i, List.mem_range.1 hi, rfl⟩
 have hrd : ∀ i : Nat, i < t.length → rd (((keysC t out).map l98).map (fun x => (numIx fs x : Int))) (i : Int) = (numIx fs (l98 (keyC t out i)) : Int) := fun i hi => by
  rw [rd_map _ _ [] i (by rw [hkl]; exact hi), hkg i hi]
 have hker : ∀ i j : Nat, i < t.length → j < t.length → ((numIx fs (l98 (keyC t out i)) : Int) = (numIx fs (l98 (keyC t out j)) : Int) ↔ l98 (keyC t out i) = l98 (keyC t out j)) := fun i j hi hj =>
  ⟨fun e => numIx_inj (hmem i hi) (hmem j hj) (by omega), fun e => by rw [e]⟩
 have hsame : ∀ i j : Nat, i < t.length → j < t.length → Same t i t j → l98 (keyC t out i) = l98 (keyC t out j) := fun i j hi hj hs => by
  rw [l98_key hv hi hj]
  refine ⟨h.same i j hi hj hs, (same_iff.1 hs).1, fun c => ?_⟩
  obtain ⟨_, _, ⟨a0, a1⟩, ⟨a2, a3⟩⟩ := hv i (by omega) (by omega)
  obtain ⟨_, _, ⟨b0, b1⟩, ⟨b2, b3⟩⟩ := hv j (by omega) (by omega)
  have h1 := h.same (nd t i).f1.toNat (nd t j).f1.toNat (by omega) (by omega) (by rw [Int.toNat_of_nonneg a0, Int.toNat_of_nonneg b0]; exact ((same_iff.1 hs).2 c).1)
  have h2 := h.same (nd t i).f2.toNat (nd t j).f2.toNat (by omega) (by omega) (by rw [Int.toNat_of_nonneg a2, Int.toNat_of_nonneg b2]; exact ((same_iff.1 hs).2 c).2)
  rw [Int.toNat_of_nonneg a0, Int.toNat_of_nonneg b0] at h1
  rw [Int.toNat_of_nonneg a2, Int.toNat_of_nonneg b2] at h2
  exact ⟨h1, h2⟩
 have hL : ∀ c : Nat, c < m → (c : Int) ∈ fs.map (fun x => x.getD 0 0) := fun c hc => by
  obtain ⟨i, hi, e⟩ := h.onto c hc
  refine List.mem_map.2 ⟨_, hmem i hi, ?_⟩
  rw [← e]
  unfold keyC l98
  split <;> rfl
 have hfl : fs.length ≤ t.length := by
  have := nodup_sub_len f1 (fun x hx => (f4 x hx).resolve_left (by simp))
  rwa [hkl] at this
 refine ⟨_, fs.length, by rw [f5], ⟨?_, fun i hi => ?_, fun c hc => ?_, fun i j hi hj hs => ?_, fun i j hi hj e => ?_⟩, by simpa using full_len hL, hfl, fun hm i j hi hj => ?_⟩
 ·simp [keysC]
 ·simp only [List.nil_append]
  rw [hrd i hi]
  have := numIx_lt (hmem i hi)
  omega
 ·have hx : fs[c] ∈ fs := List.getElem_mem hc
  obtain ⟨i, hi, e⟩ := hfs _ hx
  refine ⟨i, hi, ?_⟩
  simp only [List.nil_append]
  rw [hrd i hi, ← e]
  have h1 := numIx_get hx
  have h2 : numIx fs fs[c] = c := (List.getElem_inj f1).1 h1
  rw [h2]
 ·simp only [List.nil_append]
  rw [hrd i hi, hrd j hj, hsame i j hi hj hs]
 ·simp only [List.nil_append] at e
  rw [hrd i hi, hrd j hj, hker i j hi hj, l98_key hv hi hj] at e
  exact e.2.1
 ·simp only [List.nil_append]
  rw [hrd i hi, hrd j hj, hker i j hi hj]
  refine ⟨fun e => ?_, hsame i j hi hj⟩
  have hnd := full_nodup (L := fs.map (fun x => x.getD 0 0)) (m := m) (by simpa using hm) hL
  have hclosed : ∀ a b : Nat, a < t.length → b < t.length → rd out a = rd out b → l98 (keyC t out a) = l98 (keyC t out b) := fun a b ha hb hab =>
   map_nodup_inj hnd _ (hmem a ha) _ (hmem b hb) (by
    have g : ∀ i : Nat, (l98 (keyC t out i)).getD 0 0 = rd out i := fun i => by unfold keyC l98; split <;> rfl
    rw [g a, g b, hab])
  refine same_closed (t := t) (t' := t) (fun x y => ∃ a b : Nat, x = a ∧ y = b ∧ a < t.length ∧ b < t.length ∧ rd out a = rd out b) ?_ i j ⟨i, j, rfl, rfl, hi, hj, ((l98_key hv hi hj).1 e).1⟩
  rintro x y ⟨a, b, rfl, rfl, ha, hb, hab⟩
  have hk := (l98_key hv ha hb).1 (hclosed a b ha hb hab)
  refine ⟨hk.2.1, fun c => ?_⟩
  obtain ⟨_, _, ⟨a0, a1⟩, ⟨a2, a3⟩⟩ := hv a (by omega) (by omega)
  obtain ⟨_, _, ⟨b0, b1⟩, ⟨b2, b3⟩⟩ := hv b (by omega) (by omega)
  have := hk.2.2 c
  exact ⟨⟨_, _, (Int.toNat_of_nonneg a0).symm, (Int.toNat_of_nonneg b0).symm, by omega, by omega, by rw [Int.toNat_of_nonneg a0, Int.toNat_of_nonneg b0]; exact this.1⟩, ⟨_, _, (Int.toNat_of_nonneg a2).symm, (Int.toNat_of_nonneg b2).symm, by omega, by omega, by rw [Int.toNat_of_nonneg a2, Int.toNat_of_nonneg b2]; exact this.2⟩⟩
omit hn in
theorem hasParts_v {i : Nat} (hi : i < t.length) : loops_hasParts.f (nd t i).f0 (nd t i).f1 (nd t i).f2 = some (decide (4 ≤ (nd t i).f0)) := by
 obtain ⟨⟨k0, k1⟩, _⟩ := hv i (by omega) (by omega)
 unfold loops_hasParts.f
 by_cases c : (nd t i).f0 = 4
 ·rw [if_pos c, decide_eq_true (by omega)]
 ·rw [if_neg c]
  by_cases c5 : (nd t i).f0 = 5
  ·rw [decide_eq_true (by omega), beq_iff_eq.2 c5]
  ·rw [decide_eq_false (by omega), beq_eq_false_iff_ne.2 c5]
theorem cls_l2 {out : List Int} {m : Nat} (hI : ClsI t out m) (M : Int) : ∀ (d i : Nat), i + d = t.length → ∀ r, Ev (fun k => (loops_numbered_4_int.f (keysC t out)).bind fun b => if b.2 = M then some b.1 else loops_classes.l1 k t b.1 b.2) r →
  Ev (fun k => loops_classes.l2 k t out M ((List.range i).map (fun a : Nat => keyC t out a)) t t.length (i : Int)) r
 | 0, i, h, r, hr => by
  have : i = t.length := by omega
  subst this
  refine Ev.step (fun k => ?_) hr
  simp only [loops_classes.l2]
  rw [if_neg (by omega)]
  rfl
 | d + 1, i, h, r, hr => by
  have hi : i < t.length := by omega
  have ih := cls_l2 hI M d (i + 1) (by omega) r hr
  have hlen := hI.len
  obtain ⟨_, _, ⟨a0, a1⟩, ⟨b0, b1⟩⟩ := hv i (by omega) (by omega)
  have hp := hasParts_v hv hi
  refine Ev.step (f := fun k => loops_classes.l2 k t out M ((List.range (i + 1)).map (fun a : Nat => keyC t out a)) t t.length ((i + 1 : Nat) : Int)) (fun k => ?_) ih
  have c1 := castlt hi
  have c2 : (i : Int) < (out.length : Int) := by omega
  have c3 : (nd t i).f1 < (out.length : Int) := by omega
  have c4 : (nd t i).f2 < (out.length : Int) := by omega
  have hl : ((List.range i).map (fun a : Nat => keyC t out a)).length = i := by simp
  have e2 := w64s (j := i) (by omega)
  simp only [loops_classes.l2]
  rw [if_pos c1, if_pos (cast0 _), if_pos c1, if_pos c2, hp, Option.bind_some, e2, List.range_succ, List.map_append, List.map_singleton]
  by_cases c : 4 ≤ (nd t i).f0
  ·rw [if_pos (decide_eq_true c), if_pos a0, if_pos c3, if_pos b0, if_pos c4, if_pos (by rw [hl]; omega)]
   unfold keyC
   rw [if_pos c]
  ·rw [if_neg (by rw [decide_eq_false c]; decide), if_pos (by rw [hl]; omega)]
   rw [show keyC t out i = ⟨rd out i, (nd t i).f0, 0, 0⟩ from if_neg c]
theorem num4_some {out : List Int} {m : Nat} (hm : m ≤ 1000) (h : ClsI t out m) : loops_numbered_4_int.f (keysC t out) = some (numGo ((keysC t out).map l98) [] []) := by
 unfold loops_numbered_4_int.f
 rw [if_pos]
 refine ⟨by simp [keysC]; omega, List.all_eq_true.2 (fun x hx => ?_)⟩
 obtain ⟨i, hi, rfl⟩ := List.mem_map.1 hx
 exact key_i98 hv hn hm h (List.mem_range.1 hi)
theorem cls_l1 : ∀ (d : Nat) (out : List Int) (m : Nat), m + d = t.length → ClsI t out m → ∃ r, Ev (fun k => loops_classes.l1 k t out m) r ∧ r.length = t.length ∧ (∀ i : Nat, i < t.length → 0 ≤ rd r i ∧ rd r i < t.length) ∧ ∀ i j : Nat, i < t.length → j < t.length → (rd r i = rd r j ↔ Same t i t j) := by
 intro d
 induction d using Nat.strongRecOn with
 | _ d ih =>
  intro out m h hI
  obtain ⟨nx, m', e, hI', hle, hle', hfin⟩ := cls_next hv hn hI
  have hnum := num4_some hv hn (by omega) hI
  rw [e] at hnum
  have go : ∀ r, Ev (fun k => if (m' : Int) = (m : Int) then some nx else loops_classes.l1 k t nx m') r → Ev (fun k => loops_classes.l1 k t out m) r := fun r hr => by
   refine Ev.step (f := fun k => loops_classes.l2 k t out (m : Int) ((List.range 0).map (fun a : Nat => keyC t out a)) t t.length ((0 : Nat) : Int)) (fun k => ?_) (cls_l2 hv hn hI (m : Int) t.length 0 (by omega) r ?_)
   ·simp only [loops_classes.l1]
    rfl
   ·refine Ev.congr (fun k => ?_) hr
    rw [hnum, Option.bind_some]
  by_cases hm : m' = m
  ·refine ⟨nx, go nx ?_, hI'.len, fun i hi => ?_, hfin hm⟩
   ·refine Ev.congr (fun k => ?_) (Ev.now nx)
    rw [if_pos (by omega)]
   ·have := hI'.rng i hi
    omega
  ·obtain ⟨r, r1, r2, r3, r4⟩ := ih (t.length - m') (by omega) nx m' (by omega) hI'
   refine ⟨r, go r ?_, r2, r3, r4⟩
   refine Ev.congr (fun k => ?_) r1
   rw [if_neg (by omega)]
omit hv in
theorem cls_l0 : ∀ (d i : Nat), i + d = t.length → ∀ r, Ev (fun k => (loops_numbered_int.f ((List.range t.length).map (fun a : Nat => (nd t a).f0))).bind fun b => loops_classes.l1 k t b.1 b.2) r →
  Ev (fun k => loops_classes.l0 k t ((List.range i).map (fun a : Nat => (nd t a).f0)) t t.length (i : Int)) r
 | 0, i, h, r, hr => by
  have : i = t.length := by omega
  subst this
  refine Ev.step (fun k => ?_) hr
  simp only [loops_classes.l0]
  rw [if_neg (by omega)]
 | d + 1, i, h, r, hr => by
  have hi : i < t.length := by omega
  have ih := cls_l0 d (i + 1) (by omega) r hr
  refine Ev.step (f := fun k => loops_classes.l0 k t ((List.range (i + 1)).map (fun a : Nat => (nd t a).f0)) t t.length ((i + 1 : Nat) : Int)) (fun k => ?_) ih
  have hl : ((List.range i).map (fun a : Nat => (nd t a).f0)).length = i := by simp
  have c1 := castlt hi
  have e2 := w64s (j := i) (by omega)
  simp only [loops_classes.l0]
  rw [if_pos c1, if_pos (cast0 _), if_pos c1, if_pos (by rw [hl]; omega), e2, List.range_succ, List.map_append, List.map_singleton]
/-- The program's classes. -/
theorem classes_ev : ∃ r, Ev (fun k => loops_classes.f k t) r ∧ r.length = t.length ∧ (∀ i : Nat, i < t.length → 0 ≤ rd r i ∧ rd r i < t.length) ∧ ∀ i j : Nat, i < t.length → j < t.length → (rd r i = rd r j ↔ Same t i t j) := by
 obtain ⟨fs, f1, _, f3, f4, f5⟩ := numGo_spec ((List.range t.length).map (fun a : Nat => (nd t a).f0)) [] [] List.nodup_nil
 have hkl : ((List.range t.length).map (fun a : Nat => (nd t a).f0)).length = t.length := by simp
 have hkg : ∀ i : Nat, i < t.length → ((List.range t.length).map (fun a : Nat => (nd t a).f0)).getD i 0 = (nd t i).f0 := fun i hi => by
  rw [List.getD_eq_getElem?_getD, List.getElem?_eq_getElem (by simpa using hi)]
  simp
 have hmem : ∀ i : Nat, i < t.length → (nd t i).f0 ∈ fs := fun i hi => f3 _ (List.mem_map.2 ⟨i, List.mem_range.2 hi, rfl⟩)
 have hfs : ∀ x ∈ fs, ∃ i : Nat, i < t.length ∧ x = (nd t i).f0 := fun x hx => by
  rcases f4 x hx with h' | h'
  ·simp at h'
  ·obtain ⟨i, hi, rfl⟩ := List.mem_map.1 h'
   exact ⟨i, List.mem_range.1 hi, rfl⟩
 have hrd : ∀ i : Nat, i < t.length → rd (((List.range t.length).map (fun a : Nat => (nd t a).f0)).map (fun x => (numIx fs x : Int))) (i : Int) = (numIx fs (nd t i).f0 : Int) := fun i hi => by
  rw [rd_map _ _ 0 i (by rw [hkl]; exact hi), hkg i hi]
 have hfl : fs.length ≤ t.length := by
  have := nodup_sub_len f1 (fun x hx => (f4 x hx).resolve_left (by simp))
  rwa [hkl] at this
 have hker : ∀ i j : Nat, i < t.length → j < t.length → ((numIx fs (nd t i).f0 : Int) = (numIx fs (nd t j).f0 : Int) ↔ (nd t i).f0 = (nd t j).f0) := fun i j hi hj =>
  ⟨fun e => numIx_inj (hmem i hi) (hmem j hj) (by omega), fun e => by rw [e]⟩
 have hI : ClsI t (((List.range t.length).map (fun a : Nat => (nd t a).f0)).map (fun x => (numIx fs x : Int))) fs.length := by
  refine ⟨by simp, fun i hi => ?_, fun c hc => ?_, fun i j hi hj hs => ?_, fun i j hi hj e => ?_⟩
  ·rw [hrd i hi]
   have := numIx_lt (hmem i hi)
   omega
  ·obtain ⟨i, hi, e⟩ := hfs _ (List.getElem_mem hc)
   refine ⟨i, hi, ?_⟩
   rw [hrd i hi, ← e]
   have h2 : numIx fs fs[c] = c := (List.getElem_inj f1).1 (numIx_get (List.getElem_mem hc))
   rw [h2]
  ·rw [hrd i hi, hrd j hj, (same_iff.1 hs).1]
  ·rw [hrd i hi, hrd j hj, hker i j hi hj] at e
   exact e
 obtain ⟨r, r1, r2, r3, r4⟩ := cls_l1 hv hn (t.length - fs.length) _ fs.length (by omega) hI
 refine ⟨r, ?_, r2, r3, r4⟩
 have hnum : loops_numbered_int.f ((List.range t.length).map (fun a : Nat => (nd t a).f0)) = some (((List.range t.length).map (fun a : Nat => (nd t a).f0)).map (fun x => (numIx fs x : Int)), (fs.length : Int)) := by
  unfold loops_numbered_int.f
  rw [if_pos, f5]
  ·simp
  ·refine ⟨by simp; omega, List.all_eq_true.2 (fun x hx => ?_)⟩
   obtain ⟨i, hi, rfl⟩ := List.mem_map.1 hx
   obtain ⟨⟨k0, k1⟩, _⟩ := hv i (by omega) (by have := List.mem_range.1 hi; omega)
   unfold i64B
   exact decide_eq_true ⟨by omega, by omega⟩
 refine Ev.congr (f := fun k => loops_classes.l0 k t ((List.range 0).map (fun a : Nat => (nd t a).f0)) t t.length ((0 : Nat) : Int)) (fun k => rfl) (cls_l0 hn t.length 0 (by omega) r ?_)
 refine Ev.congr (fun k => ?_) r1
 rw [hnum, Option.bind_some]
end

/-- Where a list has a node that is equal to x first. -/
noncomputable def ixS (t : List S39) (ns : List Int) (x : Int) : Nat := ns.findIdx (fun y => sameB t y x)
noncomputable def reS (t : List S39) (ns : List Int) (x : Int) : List Int := if ixS t ns x < ns.length then ns else ns ++ [x]
noncomputable def canS (t : List S39) : Nat → List Int → Nat → List S39 → Option (List S39)
  | 0, _, _, _ => none
  | f + 1, ns, k, out =>
    if k < ns.length then
      (if 4 ≤ (nd t (rd ns k)).f0 then canS t f (reS t (reS t ns (nd t (rd ns k)).f1) (nd t (rd ns k)).f2) (k + 1)
        (out ++ [⟨(nd t (rd ns k)).f0, (ixS t (reS t ns (nd t (rd ns k)).f1) (nd t (rd ns k)).f1 : Int), (ixS t (reS t (reS t ns (nd t (rd ns k)).f1) (nd t (rd ns k)).f2) (nd t (rd ns k)).f2 : Int)⟩])
       else canS t f ns (k + 1) (out ++ [nd t (rd ns k)]))
    else some out
/-- Nodes of the list, no two equal. -/
def Apart (t : List S39) (ns : List Int) : Prop := (∀ x ∈ ns, 0 ≤ x ∧ x < t.length) ∧ ns.Pairwise (fun x y => ¬ Same t x t y)
theorem Apart.nodup {t : List S39} {ns : List Int} (h : Apart t ns) : ns.Nodup := h.2.imp (fun hs e => hs (by rw [e]; exact Same.refl _ _))
theorem Apart.len {t : List S39} {ns : List Int} (h : Apart t ns) : ns.length ≤ t.length := nodup_len t.length ns (-1) h.nodup (fun a ha => by have := h.1 a ha; omega)
section
variable {t : List S39} (hv : ∀ i : Int, 0 ≤ i → i < t.length → okN t i) (hn : t.length ≤ 100)
include hv hn
omit hv hn in
end

noncomputable def tyB (t : List S39) (m : Int) : Bool := @decide (IsTy t ∧ (t.length : Int) ≤ m) (Classical.propDecidable _)
theorem tyB_iff {t : List S39} {m : Int} : tyB t m = true ↔ IsTy t ∧ (t.length : Int) ≤ m := by
 unfold tyB
 exact @decide_eq_true_iff _ (Classical.propDecidable _)
theorem tyB_false {t : List S39} {m : Int} (h : ¬ (IsTy t ∧ (t.length : Int) ≤ m)) : tyB t m = false := by
 cases e : tyB t m with
 | false => rfl
 | true => exact absurd (tyB_iff.1 e) h
theorem tyB_not {t : List S39} {m : Int} {i : Nat} (hi : i < t.length) (h : ¬ okN t i) : tyB t m = false := tyB_false (fun hh => h (hh.1.2 i (by omega) (by omega)))
theorem within_eq (a b c : Int) : loops_within.f a b c = some (decide (b ≤ a ∧ a ≤ c)) := by
 unfold loops_within.f
 by_cases h : a ≥ b
 ·rw [if_pos h]
  by_cases h2 : a ≤ c
  ·rw [decide_eq_true h2, decide_eq_true ⟨h, h2⟩]
  ·rw [decide_eq_false h2, decide_eq_false (fun hh => h2 hh.2)]
 ·rw [if_neg h, decide_eq_false (fun hh => h hh.1)]
theorem areTypes_l0 {t : List S39} (h1 : 1 ≤ t.length) (hn : t.length ≤ 24) : ∀ (d i : Nat), i + d = t.length → (∀ j : Nat, j < i → okN t j) → Ev (fun k => loops_areTypes.l0 k t t t.length (i : Int)) (tyB t 24)
 | 0, i, h, ho => by
  refine Ev.step (fun k => ?_) (Ev.now (tyB t 24))
  simp only [loops_areTypes.l0]
  rw [if_neg (by omega), tyB_iff.2 ⟨⟨h1, fun j j0 j1 => by
   have := ho j.toNat (by omega)
   rwa [Int.toNat_of_nonneg j0] at this⟩, by omega⟩]
 | d + 1, i, h, ho => by
  have hi : i < t.length := by omega
  have z := cast0 i
  have hlt := castlt hi
  have hw : wrap64 ((t.length : Int) - 1) = (t.length : Int) - 1 := w64 (by omega) (by omega)
  obtain ⟨x5, hx5⟩ : ∃ x5, x5 = if 4 ≤ (nd t i).f0 then (t.length : Int) - 1 else 0 := ⟨_, rfl⟩
  have go : ∀ r, Ev (fun k => loops_areTypes.j1 k t x5 t t.length (i : Int) (nd t i).f0 (nd t i).f1 (nd t i).f2) r → (0 ≤ (nd t i).f0 → (nd t i).f0 ≤ 5 → Ev (fun k => loops_areTypes.l0 k t t t.length (i : Int)) r) := fun r hr f0 f5 => by
   refine Ev.step (fun k => ?_) hr
   simp only [loops_areTypes.l0]
   rw [if_pos hlt, if_pos z, if_pos hlt, hw]
   by_cases c : 4 ≤ (nd t i).f0
   ·rw [if_pos c] at hx5
    have : loops_hasParts.f (rd_T39 t i).f0 (rd_T39 t i).f1 (rd_T39 t i).f2 = some true := by
     unfold loops_hasParts.f
     by_cases c4 : (nd t i).f0 = 4
     ·rw [if_pos c4]
     ·have c5 : (nd t i).f0 = 5 := by omega
      rw [if_neg c4, beq_iff_eq.2 c5]
    rw [this, Option.bind_some, if_pos rfl, hx5]
   ·rw [if_neg c] at hx5
    have : loops_hasParts.f (rd_T39 t i).f0 (rd_T39 t i).f1 (rd_T39 t i).f2 = some false := by
     unfold loops_hasParts.f
     have c4 : ¬ (rd_T39 t i).f0 = 4 := fun e => c (by rw [e]; decide)
     have c5 : ¬ (rd_T39 t i).f0 = 5 := fun e => c (by rw [e]; decide)
     rw [if_neg c4, beq_eq_false_iff_ne.2 c5]
    rw [this, Option.bind_some, if_neg (by decide), hx5]
  have z5 : 0 ≤ x5 := by rw [hx5]; split <;> omega
  by_cases hok : okN t i
  ·have ih := areTypes_l0 h1 hn d (i + 1) (by omega) (fun j hj => by
    by_cases e : j = i
    ·rw [e]; exact hok
    ·exact ho j (by omega))
   obtain ⟨⟨k0, k1⟩, k2, ⟨a0, a1⟩, ⟨b0, b1⟩⟩ := hok
   refine go _ ?_ k0 k1
   refine Ev.step (f := fun k => loops_areTypes.l0 k t t t.length ((i + 1 : Nat) : Int)) (fun k => ?_) ih
   have e2 := w64s (j := i) (by omega)
   have q1 : (nd t i).f1 ≤ x5 := by rw [hx5]; split <;> omega
   have q2 : (nd t i).f2 ≤ x5 := by rw [hx5]; split <;> omega
   simp only [loops_areTypes.j1]
   rw [within_eq, decide_eq_true ⟨k0, k1⟩, within_eq, decide_eq_true ⟨a0, q1⟩, within_eq, decide_eq_true ⟨b0, q2⟩, e2]
   rfl
  ·rw [tyB_not hi hok]
   by_cases hk : 0 ≤ (nd t i).f0 ∧ (nd t i).f0 ≤ 5
   ·refine go _ ?_ hk.1 hk.2
    refine Ev.step (fun k => ?_) (Ev.now false)
    simp only [loops_areTypes.j1]
    rw [within_eq, decide_eq_true hk, Option.bind_some, if_pos rfl, within_eq]
    by_cases c1 : 0 ≤ (nd t i).f1 ∧ (nd t i).f1 ≤ x5
    ·rw [decide_eq_true c1, Option.bind_some, if_pos rfl, within_eq]
     by_cases c2 : 0 ≤ (nd t i).f2 ∧ (nd t i).f2 ≤ x5
     ·exfalso
      apply hok
      have q : ¬ 4 ≤ (nd t i).f0 → x5 = 0 := fun c => by rw [hx5, if_neg c]
      have q' : x5 ≤ (t.length : Int) - 1 := by rw [hx5]; split <;> omega
      refine ⟨hk, fun h => ⟨?_, ?_⟩, ⟨?_, ?_⟩, ⟨?_, ?_⟩⟩ <;> omega
     ·rw [decide_eq_false c2]
      rfl
    ·rw [decide_eq_false c1]
     rfl
   ·-- a kind that is none: both ways end so
    refine Ev.step (f := fun k => loops_areTypes.j1 k t (if (nd t i).f0 = 4 ∨ (nd t i).f0 = 5 then (t.length : Int) - 1 else 0) t t.length (i : Int) (nd t i).f0 (nd t i).f1 (nd t i).f2) (fun k => ?_) (Ev.step (fun k => ?_) (Ev.now false))
    ·simp only [loops_areTypes.l0]
     have c4 : ¬ (rd_T39 t i).f0 = 4 := fun e => hk ⟨by show 0 ≤ (rd_T39 t i).f0; omega, by show (rd_T39 t i).f0 ≤ 5; omega⟩
     have c5 : ¬ (rd_T39 t i).f0 = 5 := fun e => hk ⟨by show 0 ≤ (rd_T39 t i).f0; omega, by show (rd_T39 t i).f0 ≤ 5; omega⟩
     have : loops_hasParts.f (rd_T39 t i).f0 (rd_T39 t i).f1 (rd_T39 t i).f2 = some false := by
      unfold loops_hasParts.f
      rw [if_neg c4, beq_eq_false_iff_ne.2 c5]
     rw [if_pos hlt, if_pos z, if_pos hlt, this, Option.bind_some, if_neg (by decide), if_neg (show ¬ ((nd t i).f0 = 4 ∨ (nd t i).f0 = 5) from fun h => h.elim c4 c5)]
    ·simp only [loops_areTypes.j1]
     rw [within_eq, decide_eq_false hk]
     rfl
theorem areTypes_ev {t : List S39} (hn : t.length ≤ 1000) : Ev (fun k => loops_areTypes.f k t) (tyB t 24) := by
 unfold loops_areTypes.f
 simp only [within_eq]
 by_cases c : 1 ≤ (t.length : Int) ∧ (t.length : Int) ≤ 24
 ·refine Ev.congr (fun k => ?_) (areTypes_l0 (by omega) (by omega) t.length 0 (by omega) (fun j hj => by omega))
  rw [decide_eq_true c]
  rfl
 ·rw [tyB_false (fun hh => c ⟨by have := hh.1.1; omega, hh.2⟩)]
  refine Ev.congr (fun k => ?_) (Ev.now false)
  rw [decide_eq_false c]
  rfl
/-- All of some nodes lie in a list. -/
def inB (t : List S39) (is : List Int) : Bool := is.all (fun i => decide (0 ≤ i ∧ i < t.length))
theorem areNodes_ev {t : List S39} (hn : t.length ≤ 1000) (is : List Int) : Ev (fun k => loops_areNodes.f k t is) (tyB t 24 && inB t is) := by
 unfold loops_areNodes.f
 refine Ev.bind (f := fun k (b : Bool) => if b = true then some (!(is.any (badNode t.length))) else some false) (areTypes_ev hn) ?_
 refine Ev.congr (fun k => ?_) (Ev.now _)
 cases tyB t 24 with
 | false => rfl
 | true =>
  rw [if_pos rfl, Bool.true_and]
  congr 1
  unfold inB
  rw [List.not_any_eq_all_not]
  congr 1
  funext i
  unfold badNode
  rw [Bool.not_not]
  apply decide_eq_decide.2
  omega
/-- The canonical list. -/
noncomputable def canL (t : List S39) (i : Int) : List S39 := (canS t 200 [i] 0 []).getD []
theorem inB_one {t : List S39} {i : Int} : inB t [i] = true ↔ 0 ≤ i ∧ i < t.length := by simp [inB]
theorem inB_two {t : List S39} {i j : Int} : inB t [i, j] = true ↔ (0 ≤ i ∧ i < t.length) ∧ (0 ≤ j ∧ j < t.length) := by simp [inB]
theorem Equal_ev {t : List S39} (hn : t.length ≤ 1000) (i j : Int) : Ev (fun k => loops_Equal.f k t i j) (if (tyB t 24 && inB t [i, j]) = true then (sameB t i j, 0) else (false, 2)) := by
 unfold loops_Equal.f
 refine Ev.bind (f := fun k (b : Bool) => if b = true then ((loops_classes.f k t).bind fun cs => (if 0 ≤ i then (if i < (cs.length : Int) then (if 0 ≤ j then (if j < (cs.length : Int) then (some (((rd cs i) == (rd cs j)), (0 : Int))) else (none)) else (none)) else (none)) else (none))) else (some (false, 2))) (areNodes_ev hn [i, j]) ?_
 cases h : (tyB t 24 && inB t [i, j]) with
 | false => exact Ev.now _
 | true =>
  rw [Bool.and_eq_true] at h
  obtain ⟨⟨i0, i1⟩, ⟨j0, j1⟩⟩ := inB_two.1 h.2
  obtain ⟨⟨h1, hv⟩, hl⟩ := tyB_iff.1 h.1
  obtain ⟨cs, c1, c2, c3, c4⟩ := classes_ev hv (by omega)
  simp only [if_pos]
  refine Ev.bind (f := fun k (cs : List Int) => (if 0 ≤ i then (if i < (cs.length : Int) then (if 0 ≤ j then (if j < (cs.length : Int) then (some (((rd cs i) == (rd cs j)), (0 : Int))) else (none)) else (none)) else (none)) else (none))) c1 (Ev.congr (fun k => ?_) (Ev.now _))
  rw [if_pos i0, if_pos (by rw [c2]; exact i1), if_pos j0, if_pos (by rw [c2]; exact j1)]
  have hs := c4 i.toNat j.toNat (by omega) (by omega)
  rw [Int.toNat_of_nonneg i0, Int.toNat_of_nonneg j0] at hs
  congr 2
  cases e : sameB t i j with
  | true => exact beq_iff_eq.2 (hs.2 (sameB_iff.1 e))
  | false => exact beq_eq_false_iff_ne.2 (fun hh => by rw [sameB_iff.2 (hs.1 hh)] at e; cases e)
end Go.Proofs.Ytnfmeafiaipplaa.P

namespace Go.Proofs.Ytnfmeafiaipplaa.P
open Go.RowKit Go.Proofs.Ytnfmeafiaipplaa.S Go.Proofs.Ytnfmeafiaipplaa.Lib Go.Proofs.YtnfmeafiaipplaaW.PrintWords
set_option linter.unusedVariables false
def awT : List S39 := [(⟨4, 1, 0⟩ : S39), (⟨2, 0, 0⟩ : S39), (⟨3, 0, 0⟩ : S39), (⟨5, 4, 1⟩ : S39), (⟨1, 0, 0⟩ : S39), (⟨5, 1, 4⟩ : S39)]
theorem aw_can : loops_Canonical.f 40 awT 0 = some ([⟨4, 1, 0⟩, ⟨2, 0, 0⟩], 0) := by kernel_rfl
theorem aw_dep3 : loops_Depth.f 40 awT 3 = some (1, 0) := by kernel_rfl
theorem aw_dep0 : loops_Depth.f 40 awT 0 = some (0, 6) := by kernel_rfl
theorem aw_sub12 : (loops_Sub.f 40 awT 1 2).map (fun x => (x.1, x.2.2)) = some (false, ByteArray.empty, 0) := by kernel_rfl
theorem aw_sub35 : (loops_Sub.f 40 awT 3 5).map (fun x => (x.1, x.2.2.2)) = some (true, 0) := by kernel_rfl
theorem aw_types : tickinglaw06_types.f 40 [(⟨4, 1, 0⟩ : S39), ⟨2, 0, 0⟩] [(⟨4, 1, 0⟩ : S39), ⟨2, 0, 0⟩] = some true := by kernel_rfl
theorem aw_empty : ByteArray.empty.toList = ([] : List UInt8) := by
 unfold ByteArray.toList ByteArray.toList.loop
 rfl
theorem awake_40 : tickinglaw06_awake.f 40 = some true := by
 obtain ⟨x, hx, ex⟩ := Option.map_eq_some_iff.1 aw_sub12
 obtain ⟨y, hy, ey⟩ := Option.map_eq_some_iff.1 aw_sub35
 obtain ⟨x1, x2⟩ := Prod.mk.inj ex
 obtain ⟨x3, x4⟩ := Prod.mk.inj x2
 obtain ⟨y1, y2⟩ := Prod.mk.inj ey
 unfold tickinglaw06_awake.f
 rw [Option.bind_some]
 show ((loops_Sub.f 40 awT 1 2).bind fun bt170 => ((loops_Sub.f 40 awT 3 5).bind fun bt177 => ((loops_Canonical.f 40 awT 0).bind fun bt184 => ((loops_Depth.f 40 awT 3).bind fun bt188 => ((loops_Depth.f 40 awT 0).bind fun bt190 => _))))) = some true
 rw [hx, hy, aw_can, aw_dep3, aw_dep0]
 simp only [Option.bind_some]
 rw [if_pos x4, if_neg (by rw [x1]; decide), if_pos (by rw [x3]; exact aw_empty), if_pos y2, if_pos y1]
 simp only [if_true, aw_types, Option.bind_some]
 rfl
theorem awake_ev : Ev (fun k => tickinglaw06_awake.f k) true := Ev.of (fun k => tickinglaw06_awake.mono k) awake_40
end Go.Proofs.Ytnfmeafiaipplaa.P

namespace Go.Proofs.Ytnfmeafiaipplaa.P
open Go.RowKit Go.Proofs.Ytnfmeafiaipplaa.S Go.Proofs.Ytnfmeafiaipplaa.Lib Go.Proofs.YtnfmeafiaipplaaW.PrintWords
set_option linter.unusedVariables false
set_option linter.unusedSectionVars false

theorem u64_nonneg (a : Int) : 0 ≤ IntKind.u64.wrap a := by
 simp [IntKind.wrap, IntKind.signed, IntKind.bits]
 omega
theorem u64_id {a : Int} (h0 : 0 ≤ a) (h1 : a ≤ 1000000) : IntKind.u64.wrap a = a := by
 simp [IntKind.wrap, IntKind.signed, IntKind.bits]
 omega
theorem mod_ok (a : Int) {b : Int} (b1 : 1 ≤ b) (b2 : b ≤ 1000) : ∃ m, tickinglaw06_mod.f a b = some m ∧ 0 ≤ m ∧ m < b := by
 unfold tickinglaw06_mod.f
 rw [u64_id (by omega) (by omega), if_neg (by omega), Int.tmod_eq_emod_of_nonneg (u64_nonneg a)]
 have h0 := Int.emod_nonneg (IntKind.u64.wrap a) (show b ≠ 0 by omega)
 have h1 := Int.emod_lt_of_pos (IntKind.u64.wrap a) (show 0 < b by omega)
 rw [w64 (by omega) (by omega)]
 exact ⟨_, rfl, h0, h1⟩
/-- A node in order, of a list that will have n. -/
def okV (n : Int) (x : S39) : Prop := (0 ≤ x.f0 ∧ x.f0 ≤ 5) ∧ (x.f0 < 4 → x.f1 = 0 ∧ x.f2 = 0) ∧ (0 ≤ x.f1 ∧ x.f1 < n) ∧ (0 ≤ x.f2 ∧ x.f2 < n)
theorem ty_of {t : List S39} (h1 : 1 ≤ t.length) (h : ∀ x ∈ t, okV t.length x) : IsTy t := ⟨h1, fun i i0 i1 => by
 have hi : i.toNat < t.length := by omega
 have := h _ (List.getElem_mem hi)
 have e : nd t i = t[i.toNat] := by
  unfold nd rd_T39
  rw [List.getD_eq_getElem?_getD, List.getElem?_eq_getElem hi, Option.getD_some]
 unfold okN
 rw [e]
 exact this⟩
theorem tame_l0 (l : List S39) {n : Nat} (n1 : 1 ≤ n) (n2 : n ≤ 1000) : ∀ (d i : Nat) (out : List S39), i + d = n → out.length = i → (∀ x ∈ out, okV n x) → ∃ r, Ev (fun k => tickinglaw06_tame.l0 k l n out (i : Int)) r ∧ r.length = n ∧ ∀ x ∈ r, okV n x
 | 0, i, out, h, ho, hx => ⟨out, Ev.step (fun k => by
   simp only [tickinglaw06_tame.l0]
   rw [if_neg (by omega)]) (Ev.now out), by omega, hx⟩
 | d + 1, i, out, h, ho, hx => by
  have hb : out.length < 5864062014805 := by omega
  have hin : (i : Int) < (n : Int) := by omega
  have add : ∀ x, okV n x → ∀ y ∈ out ++ [x], okV n y := fun x hxx y hy => by
   rcases List.mem_append.1 hy with hy | hy
   ·exact hx y hy
   ·simp at hy
    rw [hy]; exact hxx
  have e2 := w64s (j := i) (by omega)
  by_cases c : (i : Int) < (l.length : Int)
  ·obtain ⟨a, ha, a0, a1⟩ := mod_ok ((rd_T39 l i).f0) (b := 6) (by omega) (by omega)
   by_cases c4 : a ≥ 4
   ·obtain ⟨b, hb1, b0, b1⟩ := mod_ok ((rd_T39 l i).f1) (b := n) (by omega) (by omega)
    obtain ⟨e, he1, e0, e1⟩ := mod_ok ((rd_T39 l i).f2) (b := n) (by omega) (by omega)
    obtain ⟨r, r1, r2⟩ := tame_l0 l n1 n2 d (i + 1) (out ++ [⟨a, b, e⟩]) (by omega) (by simp [ho]) (add _ ⟨⟨a0, show a ≤ 5 by omega⟩, fun h4 => by have : a < 4 := h4; omega, ⟨b0, b1⟩, ⟨e0, e1⟩⟩)
    refine ⟨r, Ev.step (f := fun k => tickinglaw06_tame.l0 k l n (out ++ [⟨a, b, e⟩]) ((i + 1 : Nat) : Int)) (fun k => ?_) r1, r2⟩
    simp only [tickinglaw06_tame.l0]
    rw [if_pos hin, if_pos c, if_pos (cast0 _), ha, Option.bind_some, if_pos c4, hb1, Option.bind_some, he1, Option.bind_some, if_pos hb, e2]
   ·obtain ⟨r, r1, r2⟩ := tame_l0 l n1 n2 d (i + 1) (out ++ [⟨a, 0, 0⟩]) (by omega) (by simp [ho]) (add _ ⟨⟨a0, show a ≤ 5 by omega⟩, fun _ => ⟨rfl, rfl⟩, ⟨Int.le_refl _, show (0 : Int) < n by omega⟩, ⟨Int.le_refl _, show (0 : Int) < n by omega⟩⟩)
    refine ⟨r, Ev.step (f := fun k => tickinglaw06_tame.l0 k l n (out ++ [⟨a, 0, 0⟩]) ((i + 1 : Nat) : Int)) (fun k => ?_) r1, r2⟩
    simp only [tickinglaw06_tame.l0]
    rw [if_pos hin, if_pos c, if_pos (cast0 _), ha, Option.bind_some, if_neg c4, if_pos hb, e2]
  ·obtain ⟨r, r1, r2⟩ := tame_l0 l n1 n2 d (i + 1) (out ++ [⟨0, 0, 0⟩]) (by omega) (by simp [ho]) (add _ ⟨⟨Int.le_refl _, by show (0 : Int) ≤ 5; decide⟩, fun _ => ⟨rfl, rfl⟩, ⟨Int.le_refl _, show (0 : Int) < n by omega⟩, ⟨Int.le_refl _, show (0 : Int) < n by omega⟩⟩)
   refine ⟨r, Ev.step (f := fun k => tickinglaw06_tame.l0 k l n (out ++ [⟨0, 0, 0⟩]) ((i + 1 : Nat) : Int)) (fun k => ?_) r1, r2⟩
   simp only [tickinglaw06_tame.l0]
   rw [if_pos hin, if_neg c, if_pos hb, e2]
theorem tame_ev (l : List S39) {m : Int} (m1 : 1 ≤ m) (m2 : m ≤ 24) : ∃ t, Ev (fun k => tickinglaw06_tame.f k l m) t ∧ IsTy t ∧ (t.length : Int) ≤ m := by
 obtain ⟨q, hq, q0, q1⟩ := mod_ok (wrap64 ((l.length : Int) - 1)) (b := m) m1 (by omega)
 have hw : wrap64 (1 + q) = ((q.toNat + 1 : Nat) : Int) := by
  rw [w64 (by omega) (by omega)]
  omega
 obtain ⟨t, t1, t2, t3⟩ := tame_l0 l (n := q.toNat + 1) (by omega) (by omega) (q.toNat + 1) 0 [] (by omega) rfl (fun x hx => by simp at hx)
 refine ⟨t, ?_, ty_of (by omega) (by rw [t2]; exact t3), by omega⟩
 unfold tickinglaw06_tame.f
 rw [hq]
 simp only [Option.bind_some, hw]
 exact t1

/-- A node's tree ends, and so deep it is. -/
inductive Fn (t : List S39) : Int → Nat → Prop where
 | leaf (i : Int) : ¬ 4 ≤ (nd t i).f0 → Fn t i 0
 | node (i : Int) (x y : Nat) : 4 ≤ (nd t i).f0 → Fn t (nd t i).f1 x → Fn t (nd t i).f2 y → Fn t i (1 + max x y)
theorem Fn.uniq {t : List S39} {i : Int} {x : Nat} (h : Fn t i x) : ∀ {y : Nat}, Fn t i y → x = y := by
 induction h with
 | leaf i hk =>
  intro y h'
  cases h' with
  | leaf _ _ => rfl
  | node _ _ _ hk' _ _ => exact absurd hk' hk
 | node i x y hk h1 h2 ih1 ih2 =>
  intro z h'
  cases h' with
  | leaf _ hk' => exact absurd hk hk'
  | node _ x' y' _ h1' h2' => rw [ih1 h1', ih2 h2']
theorem Fn.same {t t' : List S39} {i : Int} {x : Nat} (h : Fn t i x) : ∀ {j : Int}, Same t i t' j → Fn t' j x := by
 induction h with
 | leaf i hk =>
  intro j hs
  exact .leaf j (by rw [← (same_iff.1 hs).1]; exact hk)
 | node i x y hk h1 h2 ih1 ih2 =>
  intro j hs
  obtain ⟨e, hp⟩ := same_iff.1 hs
  exact .node j x y (by rw [← e]; exact hk) (ih1 (hp hk).1) (ih2 (hp hk).2)
/-- A node lies in another's tree. -/
inductive Rch (t : List S39) : Int → Int → Prop where
 | here (i : Int) : Rch t i i
 | left (i j : Int) : 4 ≤ (nd t i).f0 → Rch t (nd t i).f1 j → Rch t i j
 | right (i j : Int) : 4 ≤ (nd t i).f0 → Rch t (nd t i).f2 j → Rch t i j
theorem Rch.fin {t : List S39} {i j : Int} (h : Rch t i j) : ∀ {x : Nat}, Fn t i x → ∃ y, Fn t j y ∧ y ≤ x := by
 induction h with
 | here i => exact fun {x} hf => ⟨x, hf, Nat.le_refl _⟩
 | left i j hk _ ih =>
  intro x hf
  cases hf with
  | leaf _ hk' => exact absurd hk hk'
  | node _ a b _ h1 h2 =>
   obtain ⟨y, y1, y2⟩ := ih h1
   exact ⟨y, y1, by omega⟩
 | right i j hk _ ih =>
  intro x hf
  cases hf with
  | leaf _ hk' => exact absurd hk hk'
  | node _ a b _ h1 h2 =>
   obtain ⟨y, y1, y2⟩ := ih h2
   exact ⟨y, y1, by omega⟩
theorem no_loop {t : List S39} {i : Int} (hk : 4 ≤ (nd t i).f0) (h : Rch t (nd t i).f1 i ∨ Rch t (nd t i).f2 i) : ¬ ∃ x, Fn t i x := by
 rintro ⟨x, hf⟩
 cases hf with
 | leaf _ hk' => exact absurd hk hk'
 | node _ a b _ h1 h2 =>
  have hf : Fn t i (1 + max a b) := .node i a b hk h1 h2
  rcases h with h | h
  ·obtain ⟨y, y1, y2⟩ := h.fin h1
   have := hf.uniq y1
   omega
  ·obtain ⟨y, y1, y2⟩ := h.fin h2
   have := hf.uniq y1
   omega
section
variable {t : List S39} (hv : ∀ i : Int, 0 ≤ i → i < t.length → okN t i) (hn : t.length ≤ 90)
include hv hn
/-- Every depth below a node's own is some node's. -/
theorem fn_all {i : Int} {x : Nat} (h : Fn t i x) : 0 ≤ i → i < t.length → ∀ c, c ≤ x → ∃ j : Nat, j < t.length ∧ Fn t j c := by
 induction h with
 | leaf i hk =>
  intro i0 i1 c hc
  refine ⟨i.toNat, by omega, ?_⟩
  rw [Int.toNat_of_nonneg i0, show c = 0 by omega]
  exact .leaf i hk
 | node i x y hk h1 h2 ih1 ih2 =>
  intro i0 i1 c hc
  obtain ⟨_, _, ⟨a0, a1⟩, ⟨b0, b1⟩⟩ := hv i i0 i1
  by_cases e : c = 1 + max x y
  ·refine ⟨i.toNat, by omega, ?_⟩
   rw [Int.toNat_of_nonneg i0, e]
   exact .node i x y hk h1 h2
  ·by_cases e1 : c ≤ x
   ·exact ih1 a0 a1 c e1
   ·exact ih2 b0 b1 c (by omega)
theorem fn_lt {i : Int} {x : Nat} (h : Fn t i x) (i0 : 0 ≤ i) (i1 : i < t.length) : x < t.length := by
 classical
 let dep : Nat → Int := fun j => if hj : ∃ y, Fn t j y then (hj.choose : Int) else 0
 have := full_len (L := (List.range t.length).map dep) (m := x + 1) (fun c hc => by
  obtain ⟨j, hj, hf⟩ := fn_all hv hn h i0 i1 c (by omega)
  refine List.mem_map.2 ⟨j, List.mem_range.2 hj, ?_⟩
  have hex : ∃ y, Fn t j y := ⟨c, hf⟩
  show (if hj : ∃ y, Fn t j y then (hj.choose : Int) else 0) = c
  rw [dif_pos hex, hex.choose_spec.uniq hf])
 simp at this
 omega
theorem depF_fn {i : Int} {x : Nat} (h : Fn t i x) : 0 ≤ i → i < t.length → ∀ (f : Nat) (left : Int), x < f → x ≤ left → left ≤ 1000 → depF t f i left = some (x : Int) := by
 induction h with
 | leaf i hk =>
  intro i0 i1 f left hf hl h1000
  obtain ⟨f, rfl⟩ : ∃ g, f = g + 1 := ⟨f - 1, by omega⟩
  unfold depF
  rw [if_pos ⟨⟨i0, i1⟩, by omega, by omega, h1000⟩, if_neg (by show ¬ ((nd t i).f0 = 4 ∨ (nd t i).f0 = 5); omega)]
  rfl
 | node i x y hk h1 h2 ih1 ih2 =>
  intro i0 i1 f left hf hl h1000
  obtain ⟨⟨k0, k1⟩, _, ⟨a0, a1⟩, ⟨b0, b1⟩⟩ := hv i i0 i1
  obtain ⟨f, rfl⟩ : ∃ g, f = g + 1 := ⟨f - 1, by omega⟩
  have hlt := fn_lt hv hn (.node i x y hk h1 h2) i0 i1
  have hx := fn_lt hv hn h1 a0 a1
  have hy := fn_lt hv hn h2 b0 b1
  have e1 := ih1 a0 a1 f (left - 1) (by omega) (by omega) (by omega)
  have e2 := ih2 b0 b1 f (left - 1) (by omega) (by omega) (by omega)
  unfold depF
  rw [if_pos ⟨⟨i0, i1⟩, by omega, by omega, h1000⟩, if_pos (by show ((nd t i).f0 = 4 ∨ (nd t i).f0 = 5); omega), if_neg (by omega)]
  show (depF t f (nd t i).f1 (left - 1)).bind _ = _
  rw [e1, Option.bind_some, if_pos ⟨by omega, by omega⟩, if_pos (by omega)]
  show (depF t f (nd t i).f2 (left - 1)).bind _ = _
  rw [e2, Option.bind_some, if_pos ⟨by omega, by omega⟩]
  congr 1
  unfold mn mx
  split <;> split <;> omega
/-- Nodes that nobody has come to. -/
def wh (t : List S39) (sl : SL) : Nat := (List.range t.length).countP (fun i : Nat => stOf sl i == 0)
omit hv hn in
theorem stOf_cons (sl : SL) (i c x : Int) : stOf ((i, c) :: sl) x = if x = i then c else stOf sl x := by
 unfold stOf
 rw [List.lookup_cons]
 by_cases h : x = i
 ·rw [if_pos h, h]
  simp
 ·rw [if_neg h]
  have : (x == i) = false := beq_eq_false_iff_ne.2 h
  rw [this]
omit hv hn in
theorem countP_lt {p q : Nat → Bool} : ∀ (l : List Nat) (a : Nat), a ∈ l → p a = false → q a = true → (∀ x, p x = true → q x = true) → l.countP p < l.countP q
 | [], a, h, _, _, _ => by simp at h
 | b :: l, a, h, h1, h2, h3 => by
  rw [List.countP_cons, List.countP_cons]
  have hle : l.countP p ≤ l.countP q := List.countP_mono_left (fun x _ hx => h3 x hx)
  rcases List.mem_cons.1 h with rfl | h
  ·rw [if_neg (by rw [h1]; decide), if_pos h2]
   omega
  ·have := countP_lt l a h h1 h2 h3
   by_cases hb : p b = true
   ·rw [if_pos hb, if_pos (h3 b hb)]; omega
   ·rw [if_neg hb]; split <;> omega
omit hv hn in
theorem wh_put {sl : SL} {i c : Int} (i0 : 0 ≤ i) (i1 : i < t.length) (h : stOf sl i = 0) (hc : c ≠ 0) : wh t ((i, c) :: sl) < wh t sl := by
 unfold wh
 refine countP_lt _ i.toNat (List.mem_range.2 (by omega)) ?_ ?_ (fun x hx => ?_)
 ·rw [Int.toNat_of_nonneg i0, stOf_cons, if_pos rfl]
  exact beq_eq_false_iff_ne.2 hc
 ·rw [Int.toNat_of_nonneg i0, h]
  rfl
 ·rw [stOf_cons] at hx
  by_cases e : (x : Int) = i
  ·rw [if_pos e] at hx
   exact absurd (beq_iff_eq.1 hx) hc
  ·rw [if_neg e] at hx
   exact hx
omit hv hn in
theorem wh_put2 {sl : SL} {i c : Int} (hc : c ≠ 0) : wh t ((i, c) :: sl) ≤ wh t sl := by
 unfold wh
 refine List.countP_mono_left (fun x _ hx => ?_)
 rw [stOf_cons] at hx
 by_cases e : (x : Int) = i
 ·rw [if_pos e] at hx
  exact absurd (beq_iff_eq.1 hx) hc
 ·rw [if_neg e] at hx
  exact hx
/-- States are none, begun, done; what is done ends. -/
def CyI (t : List S39) (sl : SL) : Prop := ∀ x, (stOf sl x = 0 ∨ stOf sl x = 1 ∨ stOf sl x = 2) ∧ (stOf sl x = 2 → ∃ y, Fn t x y)
theorem vis_ok : ∀ (f : Nat) (i : Int) (sl : SL), 0 ≤ i → i < t.length → wh t sl < f → sl.length + 2 * wh t sl ≤ 1000 → CyI t sl →
  ∃ b sl', visF t f i sl = some (b, sl') ∧ sl'.length + 2 * wh t sl' ≤ sl.length + 2 * wh t sl ∧ wh t sl' ≤ wh t sl ∧
   (b = false → CyI t sl' ∧ (∃ y, Fn t i y) ∧ ∀ x, stOf sl' x = 1 ↔ stOf sl x = 1) ∧ (b = true → (∃ g, stOf sl g = 1 ∧ Rch t i g) ∨ ¬ ∃ y, Fn t i y)
 | 0, i, sl, _, _, h, _, _ => by omega
 | f + 1, i, sl, i0, i1, hw, hl, hI => by
  unfold visF
  by_cases c : stOf sl i > 0
  ·rw [if_pos c]
   refine ⟨_, _, rfl, Nat.le_refl _, Nat.le_refl _, fun hb => ⟨hI, ?_, fun x => Iff.rfl⟩, fun hb => .inl ⟨i, beq_iff_eq.1 hb, .here i⟩⟩
   have := beq_eq_false_iff_ne.1 hb
   exact (hI i).2 (by have := (hI i).1; omega)
  ·have hst : stOf sl i = 0 := by have := (hI i).1; omega
   obtain ⟨⟨k0, k1⟩, _, ⟨a0, a1⟩, ⟨b0, b1⟩⟩ := hv i i0 i1
   have hw1 := wh_put (c := 1) i0 i1 hst (by decide)
   rw [if_neg c, if_pos ⟨⟨i0, i1⟩, by omega⟩]
   have hI1 : CyI t ((i, 1) :: sl) := fun x => by
    rw [stOf_cons]
    by_cases e : x = i
    ·rw [if_pos e]
     exact ⟨.inr (.inl rfl), fun h => by omega⟩
    ·rw [if_neg e]
     exact hI x
   by_cases hk : 4 ≤ (nd t i).f0
   ·rw [if_pos (show (nd t i).f0 = 4 ∨ (nd t i).f0 = 5 by omega)]
    obtain ⟨ba, sa, e1, e2, e3, e4, e5⟩ := vis_ok f (nd t i).f1 ((i, 1) :: sl) a0 a1 (by omega) (by simp only [List.length_cons]; omega) hI1
    simp only [List.length_cons] at e2
    have w2 := wh_put2 (t := t) (sl := sa) (i := i) (c := 2) (by decide)
    show ∃ b sl', ((visF t f (nd t i).f1 ((i, 1) :: sl)).bind _) = some (b, sl') ∧ _
    rw [e1, Option.bind_some, if_pos (show sa.length ≤ 1000000 by omega)]
    cases ba with
    | true =>
     rw [if_pos rfl]
     refine ⟨true, (i, 2) :: sa, rfl, by simp only [List.length_cons]; omega, by omega, fun h => (by cases h), fun _ => ?_⟩
     rcases e5 rfl with ⟨g, g1, g2⟩ | hinf
     ·rw [stOf_cons] at g1
      by_cases e : g = i
      ·rw [e] at g2
       exact .inr (no_loop hk (.inl g2))
      ·rw [if_neg e] at g1
       exact .inl ⟨g, g1, .left i g hk g2⟩
     ·refine .inr (fun hf => hinf ?_)
      obtain ⟨y, hf⟩ := hf
      cases hf with
      | leaf _ hk' => exact absurd hk hk'
      | node _ x y _ h1 h2 => exact ⟨x, h1⟩
    | false =>
     obtain ⟨hIa, ⟨ya, hya⟩, hga⟩ := e4 rfl
     rw [if_neg (show ¬ (false : Bool) = true by decide)]
     obtain ⟨bb, sb, d1, d2, d3, d4, d5⟩ := vis_ok f (nd t i).f2 sa b0 b1 (by omega) (by omega) hIa
     have w3 := wh_put2 (t := t) (sl := sb) (i := i) (c := 2) (by decide)
     show ∃ b sl', ((visF t f (nd t i).f2 sa).bind _) = some (b, sl') ∧ _
     rw [d1, Option.bind_some, if_pos (show sb.length ≤ 1000000 by omega)]
     refine ⟨bb, (i, 2) :: sb, rfl, by simp only [List.length_cons]; omega, by omega, fun hb => ?_, fun hb => ?_⟩
     ·have hb : bb = false := hb
      obtain ⟨hIb, ⟨yb, hyb⟩, hgb⟩ := d4 hb
      have hfi : Fn t i (1 + max ya yb) := .node i ya yb hk hya hyb
      refine ⟨fun x => ?_, ⟨_, hfi⟩, fun x => ?_⟩
      ·rw [stOf_cons]
       by_cases e : x = i
       ·rw [if_pos e, e]
        exact ⟨.inr (.inr rfl), fun _ => ⟨_, hfi⟩⟩
       ·rw [if_neg e]
        exact hIb x
      ·rw [stOf_cons]
       by_cases e : x = i
       ·rw [if_pos e, e, hst]
        constructor <;> intro h <;> omega
       ·rw [if_neg e, hgb x, hga x, stOf_cons, if_neg e]
     ·have hb : bb = true := hb
      rcases d5 hb with ⟨g, g1, g2⟩ | hinf
      ·rw [hga g, stOf_cons] at g1
       by_cases e : g = i
       ·rw [e] at g2
        exact .inr (no_loop hk (.inr g2))
       ·rw [if_neg e] at g1
        exact .inl ⟨g, g1, .right i g hk g2⟩
      ·refine .inr (fun hf => hinf ?_)
       obtain ⟨y, hf⟩ := hf
       cases hf with
       | leaf _ hk' => exact absurd hk hk'
       | node _ x y _ h1 h2 => exact ⟨y, h2⟩
   ·rw [if_neg (show ¬ ((nd t i).f0 = 4 ∨ (nd t i).f0 = 5) by omega)]
    have w2 := wh_put2 (t := t) (sl := ((i, 1) :: sl)) (i := i) (c := 2) (by decide)
    refine ⟨_, _, rfl, by simp only [List.length_cons]; omega, by omega, fun _ => ⟨fun x => ?_, ⟨0, .leaf i hk⟩, fun x => ?_⟩, fun h => (by cases h)⟩
    ·rw [stOf_cons]
     by_cases e : x = i
     ·rw [if_pos e, e]
      exact ⟨.inr (.inr rfl), fun _ => ⟨0, .leaf i hk⟩⟩
     ·rw [if_neg e]
      exact hI1 x
    ·rw [stOf_cons, stOf_cons]
     by_cases e : x = i
     ·rw [if_pos e, e, hst]
      constructor <;> intro h <;> omega
     ·rw [if_neg e, if_neg e]
theorem onCycle_ok {i : Int} (i0 : 0 ≤ i) (i1 : i < t.length) : ∃ b, loops_onCycle.f t i = some b ∧ (b = true ↔ ¬ ∃ x, Fn t i x) := by
 have hw : wh t [] ≤ t.length := by
  unfold wh
  have := List.countP_le_length (p := fun i : Nat => stOf [] i == 0) (l := List.range t.length)
  simpa using this
 obtain ⟨b, sl, h1, _, _, h4, h5⟩ := vis_ok hv hn 100 i [] i0 i1 (by omega) (by simp; omega) (fun x => ⟨.inl rfl, fun h => by cases h⟩)
 refine ⟨b, ?_, fun hb => ?_, fun hb => ?_⟩
 ·unfold loops_onCycle.f
  rw [if_pos, h1]
  ·rfl
  ·refine ⟨by omega, by unfold i64B; exact decide_eq_true ⟨by omega, by omega⟩, List.all_eq_true.2 (fun x hx => ?_)⟩
   obtain ⟨j, hj, rfl⟩ := List.getElem_of_mem hx
   have := hv j (by omega) (by omega)
   have e : nd t (j : Int) = t[j] := by
    unfold nd rd_T39
    rw [List.getD_eq_getElem?_getD, Int.toNat_natCast, List.getElem?_eq_getElem hj, Option.getD_some]
   unfold okN at this
   rw [e] at this
   obtain ⟨_, _, ⟨a0, a1⟩, ⟨b0, b1⟩⟩ := this
   unfold i64B
   rw [Bool.and_eq_true]
   exact ⟨decide_eq_true ⟨by omega, by omega⟩, decide_eq_true ⟨by omega, by omega⟩⟩
 ·rcases h5 hb with ⟨g, g1, _⟩ | h
  ·cases g1
  ·exact h
 ·cases b with
  | true => rfl
  | false => exact absurd (h4 rfl).2.1 hb
end
theorem Depth_fin {t : List S39} (ht : tyB t 24 = true) {i : Int} (i0 : 0 ≤ i) (i1 : i < t.length) {x : Nat} (h : Fn t i x) : Ev (fun k => loops_Depth.f k t i) ((x : Int), 0) := by
 obtain ⟨⟨h1, hv⟩, hl⟩ := tyB_iff.1 ht
 obtain ⟨b, b1, b2⟩ := onCycle_ok hv (by omega) i0 i1
 have hb : b = false := by
  cases b with
  | false => rfl
  | true => exact absurd ⟨x, h⟩ (b2.1 rfl)
 have hx := fn_lt hv (by omega) h i0 i1
 unfold loops_Depth.f
 refine Ev.bind (f := fun k (ok : Bool) => if ok = true then (loops_onCycle.f t i).bind fun cy => if cy = true then some ((0 : Int), (6 : Int)) else (depF t 100 i t.length).bind fun d => some (d, (0 : Int)) else some ((0 : Int), (2 : Int))) (areNodes_ev (by omega) [i]) ?_
 rw [ht, inB_one.2 ⟨i0, i1⟩, b1, hb]
 refine Ev.congr (fun k => ?_) (Ev.now _)
 rw [if_pos (show (true && true) = true from rfl), Option.bind_some, if_neg (by decide), depF_fn hv (by omega) h i0 i1 100 t.length (by omega) (by omega) (by omega)]
 rfl
theorem Depth_inf {t : List S39} (ht : tyB t 24 = true) {i : Int} (i0 : 0 ≤ i) (i1 : i < t.length) (h : ¬ ∃ x, Fn t i x) : Ev (fun k => loops_Depth.f k t i) ((0 : Int), 6) := by
 obtain ⟨⟨h1, hv⟩, hl⟩ := tyB_iff.1 ht
 obtain ⟨b, b1, b2⟩ := onCycle_ok hv (by omega) i0 i1
 unfold loops_Depth.f
 refine Ev.bind (f := fun k (ok : Bool) => if ok = true then (loops_onCycle.f t i).bind fun cy => if cy = true then some ((0 : Int), (6 : Int)) else (depF t 100 i t.length).bind fun d => some (d, (0 : Int)) else some ((0 : Int), (2 : Int))) (areNodes_ev (by omega) [i]) ?_
 rw [ht, inB_one.2 ⟨i0, i1⟩, b1, b2.2 h]
 exact Ev.now _
/-- What Depth says of a node. -/
theorem Depth_ex {t : List S39} (ht : tyB t 24 = true) {i : Int} (i0 : 0 ≤ i) (i1 : i < t.length) : ∃ d c : Int, Ev (fun k => loops_Depth.f k t i) (d, c) ∧ ((c = 0 ∧ ∃ x : Nat, d = x ∧ Fn t i x) ∨ (d = 0 ∧ c = 6 ∧ ¬ ∃ x, Fn t i x)) := by
 by_cases h : ∃ x, Fn t i x
 ·obtain ⟨x, hx⟩ := h
  exact ⟨x, 0, Depth_fin ht i0 i1 hx, .inl ⟨rfl, x, rfl, hx⟩⟩
 ·exact ⟨0, 6, Depth_inf ht i0 i1 h, .inr ⟨rfl, rfl, h⟩⟩
theorem deep_j0 {t : List S39} (ht : tyB t 24 = true) {i d c : Int} (i0 : 0 ≤ i) (i1 : i < t.length) (h : (c = 0 ∧ ∃ x : Nat, d = x ∧ Fn t i x) ∨ (d = 0 ∧ c = 6 ∧ ¬ ∃ x, Fn t i x)) (b : Bool) (hb : b = false) : Ev (fun k => tickinglaw06_LoopsDeep.j0 k t i d c b) true := by
 subst hb
 obtain ⟨⟨t1, hv⟩, hl⟩ := tyB_iff.1 ht
 have hw : Ev (fun k => (tickinglaw06_awake.f k).bind fun z => some z) true := Ev.congr (fun k => by cases tickinglaw06_awake.f k <;> rfl) awake_ev
 by_cases hk : 4 ≤ (nd t i).f0
 ·obtain ⟨_, _, ⟨a0, a1⟩, ⟨b0, b1⟩⟩ := hv i i0 i1
  obtain ⟨da, ca, ea, fa⟩ := Depth_ex ht a0 a1
  obtain ⟨db, cb, eb, fb⟩ := Depth_ex ht b0 b1
  refine Ev.step (f := fun k => (loops_Depth.f k t (nd t i).f1).bind fun bt380 => ((loops_Depth.f k t (nd t i).f2).bind fun bt383 => (if c = 0 then (if bt380.2 = 0 then (if bt383.2 = 0 then (if d = (wrap64 (1 + (mx bt380.1 bt383.1))) then (if d < (t.length : Int) then ((tickinglaw06_awake.f k).bind fun t385 => (some t385)) else (some false)) else (some false)) else (some false)) else (some false)) else (if bt380.2 = 0 then (if bt383.2 = 0 then (some false) else ((tickinglaw06_awake.f k).bind fun t386 => (some t386))) else ((tickinglaw06_awake.f k).bind fun t387 => (some t387)))))) (fun k => ?_) ?_
  ·simp only [tickinglaw06_LoopsDeep.j0]
   rw [if_neg (by decide), if_pos i0, if_pos i1, if_neg (show ¬ (nd t i).f0 < 4 by omega)]
  ·refine Ev.bind (f := fun k (z : Int × Int) => _) ea ?_
   refine Ev.bind (f := fun k (z : Int × Int) => _) eb ?_
   simp only []
   rcases h with ⟨rfl, x, rfl, hx⟩ | ⟨rfl, rfl, hinf⟩
   ·have hlt := fn_lt hv (by omega) hx i0 i1
    cases hx with
    | leaf _ hk' => exact absurd hk hk'
    | node _ p q _ h1 h2 =>
     have hp := fn_lt hv (by omega) h1 a0 a1
     have hq := fn_lt hv (by omega) h2 b0 b1
     rcases fa with ⟨rfl, p', rfl, hp'⟩ | ⟨_, _, hn⟩
     ·rcases fb with ⟨rfl, q', rfl, hq'⟩ | ⟨_, _, hn⟩
      ·obtain rfl := h1.uniq hp'
       obtain rfl := h2.uniq hq'
       have e : wrap64 (1 + mx (p : Int) (q : Int)) = ((1 + max p q : Nat) : Int) := by
        have e1 : mx (p : Int) (q : Int) = ((max p q : Nat) : Int) := by unfold mx; split <;> omega
        rw [e1, w64 (by omega) (by omega)]
        omega
       simp only [if_true, e, if_pos (castlt hlt)]
       exact hw
      ·exact absurd ⟨q, h2⟩ hn
     ·exact absurd ⟨p, h1⟩ hn
   ·rcases fa with ⟨rfl, p, rfl, hp⟩ | ⟨rfl, rfl, hn⟩
    ·rcases fb with ⟨rfl, q, rfl, hq⟩ | ⟨rfl, rfl, hn⟩
     ·exact absurd ⟨_, .node i p q hk hp hq⟩ hinf
     ·simp only [show ¬ (6 : Int) = 0 by decide, if_true, if_false]
      exact hw
    ·simp only [show ¬ (6 : Int) = 0 by decide, if_true, if_false]
     exact hw
 ·refine Ev.step (f := fun k => (tickinglaw06_awake.f k).bind fun z => some z) (fun k => ?_) hw
  simp only [tickinglaw06_LoopsDeep.j0]
  have hf : Fn t i 0 := .leaf i hk
  rcases h with ⟨rfl, x, rfl, hx⟩ | ⟨_, _, hn⟩
  ·have := hf.uniq hx
   subst this
   rw [if_neg (by decide), if_pos i0, if_pos i1, if_pos (show (nd t i).f0 < 4 by omega), if_pos rfl, if_pos (show ((0 : Nat) : Int) = 0 from rfl)]
  ·exact absurd ⟨0, hf⟩ hn
theorem LoopsDeep_ev (l : List S39) (a b : Int) : Ev (fun k => tickinglaw06_LoopsDeep.f k l a b) true := by
 unfold tickinglaw06_LoopsDeep.f
 obtain ⟨t, t1, t2, t3⟩ := tame_ev l (m := 16) (by omega) (by omega)
 have ht : tyB t 24 = true := tyB_iff.2 ⟨t2, by omega⟩
 have hlen := t2.1
 refine Ev.bind (f := fun k (z : List S39) => _) t1 ?_
 obtain ⟨i, hi, i0, i1⟩ := mod_ok a (b := t.length) (by omega) (by omega)
 obtain ⟨j, hj, j0, j1⟩ := mod_ok b (b := t.length) (by omega) (by omega)
 rw [hi, hj]
 simp only [Option.bind_some]
 obtain ⟨d, c, e1, f1⟩ := Depth_ex ht i0 i1
 obtain ⟨d', c', e2, f2⟩ := Depth_ex ht j0 j1
 refine Ev.bind (f := fun k (z : Int × Int) => _) e1 ?_
 refine Ev.bind (f := fun k (z : Int × Int) => _) e2 ?_
 refine Ev.bind (f := fun k (z : Bool × Int) => _) (Equal_ev (by omega) i j) ?_
 rw [ht, inB_two.2 ⟨⟨i0, i1⟩, ⟨j0, j1⟩⟩]
 simp only [Bool.and_self, if_true]
 have hc : c = 0 ∨ c = 6 := by
  rcases f1 with ⟨h, _⟩ | ⟨_, h, _⟩
  ·exact .inl h
  ·exact .inr h
 cases hs : sameB t i j with
 | false =>
  rcases hc with hc | hc
  ·simp only [if_pos hc, Bool.false_eq_true, if_false]
   exact deep_j0 ht i0 i1 f1 false rfl
  ·simp only [if_neg (show ¬ c = 0 by omega), if_pos hc, Bool.false_eq_true, if_false]
   exact deep_j0 ht i0 i1 f1 false rfl
 | true =>
  have hsm := sameB_iff.1 hs
  have hdd : d = d' ∧ c = c' := by
   rcases f1 with ⟨rfl, x, rfl, hx⟩ | ⟨rfl, rfl, hn⟩
   ·rcases f2 with ⟨rfl, y, rfl, hy⟩ | ⟨_, _, hn⟩
    ·rw [(hx.same hsm).uniq hy]
     exact ⟨rfl, rfl⟩
    ·exact absurd ⟨x, hx.same hsm⟩ hn
   ·rcases f2 with ⟨_, y, _, hy⟩ | ⟨rfl, rfl, _⟩
    ·exact absurd ⟨y, hy.same hsm.symm⟩ hn
    ·exact ⟨rfl, rfl⟩
  obtain ⟨rfl, rfl⟩ := hdd
  rcases hc with hc | hc
  ·simp only [if_pos hc, if_true]
   exact deep_j0 ht i0 i1 f1 _ (by simp)
  ·simp only [if_neg (show ¬ c = 0 by omega), if_pos hc, if_true]
   exact deep_j0 ht i0 i1 f1 _ (by simp)
theorem LoopsDeep (l : List S39) (a b : Int) : ∃ k, tickinglaw06_LoopsDeep.f k l a b = some true := (LoopsDeep_ev l a b).rounds
end Go.Proofs.Ytnfmeafiaipplaa.P

namespace Go.Proofs.Ytnfmeafiaipplaa.Open
instance : Inhabited Go.Proofs.Ytnfmeafiaipplaa.S.S39 := ⟨⟨0, 0, 0⟩⟩
open Go.ChangeShapes Go.WideShapes Go.ChangeAt Go.RowKit
open Go.Proofs.Ytnfmeafiaipplaa.S Go.Proofs.Ytnfmeafiaipplaa.Lib Go.Proofs.YtnfmeafiaipplaaW.PrintWords Go.Proofs.YtnfmeafiaipplaaW.PrintLast Go.Proofs.YtnfmeafiaipplaaW.PrintMore
set_option linter.unusedVariables false
set_option maxRecDepth 100000

theorem add_add (a : Addr) (i j : Nat) : (a.add i).add j = a.add (i + j) := by
 unfold Addr.add
 by_cases hi : i = 0
 ·subst hi
  simp
 ·by_cases hj : j = 0
  ·subst hj
   simp [hi]
  ·simp [hi, hj, Nat.add_assoc]
theorem cells3 : Try.prog.cellsOf 39 = 3 := by kernel_rfl
theorem cells1 : Try.prog.cellsOf 3 = 1 := by kernel_rfl
section
variable {H : Type} {enc : TypeId × Value → H} {W : World} {base : Nat} {spare : Nat → Bool} {held : Bool}
/-- A node's cells. -/
theorem open_node {fuel : Nat} {cs : List Value} {x : DataW H × List MemPlace} (h : DataW.trod enc Try.prog W base spare held fuel 39 cs = some x) : ∃ n : S39, cs = [.int .i64 n.f0, .int .i64 n.f1, .int .i64 n.f2] := by
 obtain ⟨xs, n, _, _, hl, hxl, hf⟩ := DataW.trod_struct Try.underlying39 h
 rw [cells3] at hl
 obtain ⟨c0, c1, c2, rfl⟩ : ∃ c0 c1 c2, cs = [c0, c1, c2] := by
  match cs, hl with
  | [a, b, c], _ => exact ⟨a, b, c, rfl⟩
 have f0 : DataW.trod enc Try.prog W base spare held n 3 (([c0, c1, c2].drop 0).take (Try.prog.cellsOf 3)) = xs[0]? := hf 0 _ rfl
 have f1 : DataW.trod enc Try.prog W base spare held n 3 (([c0, c1, c2].drop 1).take (Try.prog.cellsOf 3)) = xs[1]? := hf 1 _ rfl
 have f2 : DataW.trod enc Try.prog W base spare held n 3 (([c0, c1, c2].drop 2).take (Try.prog.cellsOf 3)) = xs[2]? := hf 2 _ rfl
 rw [cells1] at f0 f1 f2
 have hxl3 : xs.length = 3 := hxl
 rw [List.getElem?_eq_getElem (by omega)] at f0 f1 f2
 obtain ⟨n0, h0, _⟩ := DataW.trod_int Try.underlying3 f0
 obtain ⟨n1, h1, _⟩ := DataW.trod_int Try.underlying3 f1
 obtain ⟨n2, h2, _⟩ := DataW.trod_int Try.underlying3 f2
 refine ⟨⟨n0, n1, n2⟩, ?_⟩
 simp at h0 h1 h2
 rw [h0, h1, h2]
theorem open_types {a : Option Addr} {len cap : Nat} {d : DataW H} {ps : List MemPlace} (h : DataW.Trod enc Try.prog W base spare held 22 (.slice a len cap) d ps) :
  ∃ zs : List S39, zs.length = len ∧ Kd.C k39 W a zs.length zs ∧ zs.length ≤ cap := by
 obtain ⟨fuel, hf⟩ := h
 rcases Go.Deep.open_slice Try.underlying22 hf with ⟨hcs, _⟩ | ⟨x, l, c, m, n, D, Pl, hcs, _, hl, hm, hmm, _, hx⟩
 ·simp [Value.cells] at hcs
  obtain ⟨rfl, rfl, rfl⟩ := hcs
  exact ⟨[], rfl, ⟨rfl, by simp, fun hp => absurd hp (by simp)⟩, by simp⟩
 ·simp [Value.cells] at hcs
  obtain ⟨rfl, rfl, rfl⟩ := hcs
  have hlm : len ≤ m := by rw [hmm]; split <;> omega
  obtain ⟨Z, hZ⟩ := Go.Deep.choose_lt (α := S39) (n := len) (p := fun i z => ∀ j u, [Value.int .i64 z.f0, .int .i64 z.f1, .int .i64 z.f2][j]? = some u → W.cell? (x.add (i * 3 + j)) = some u) (fun i hi => by
   obtain ⟨cs', h1, h2⟩ := hx i (by omega)
   obtain ⟨z, rfl⟩ := open_node h2
   obtain ⟨_, _, h3⟩ := World.cells?_some h1
   rw [cells3] at h3
   refine ⟨z, fun j u hu => ?_⟩
   have hj : j < 3 := by
    have := (List.getElem?_eq_some_iff.1 hu).1
    simpa using this
   rw [← add_add, h3 j hj, hu])
  have hml : len ≤ 9223372036854775807 := by simp only [maxLen] at hm; omega
  refine ⟨(List.range len).map Z, by simp, ⟨by simp, by simpa using hml, fun _ => ⟨x, rfl, fun j p hj => ?_⟩⟩, by simpa using hl⟩
  obtain ⟨hj1, hj2⟩ := List.getElem?_eq_some_iff.1 hj
  simp at hj1 hj2
  refine ⟨_, rfl, k39_mk W p, fun i u hu => ?_⟩
  rw [← hj2] at hu
  exact hZ j hj1 i u hu
theorem okWide_array {P : Program} {w : World} {r : Reach} {b0 n : Nat} {t e : TypeId} {v : Value} (ht : P.underlying t = some (.array n e)) (h : Value.okWide P w r b0 t v) : ∃ cs, v = .agg cs ∧ cs.size = P.cellsOf t := by
 simp only [Value.okWide, ht] at h
 obtain ⟨cs, h1, h2, _⟩ := h
 exact ⟨cs, h1, h2⟩
theorem open_two {r : Reach} {b0 : Nat} {v : Value} {d : DataW H} {ps : List MemPlace} (hv : Value.okWide Try.prog W r b0 23 v) (h : DataW.Trod enc Try.prog W base spare held 23 v d ps) :
  ∃ a b : Int, v = .agg #[.int .i64 a, .int .i64 b] ∧ (Lit.int .i64 a).wf = true ∧ (Lit.int .i64 b).wf = true := by
 obtain ⟨cs, rfl, hsz⟩ := okWide_array Try.underlying23 hv
 obtain ⟨fuel, hf⟩ := h
 have hc : Try.prog.cellsOf 23 = 2 := by kernel_rfl
 rw [hc] at hsz
 obtain ⟨xs, m, _, _, _, hxl, hel⟩ := DataW.trod_array Try.underlying23 hf
 obtain ⟨c0, c1, rfl⟩ : ∃ c0 c1, cs = #[c0, c1] := by
  obtain ⟨l⟩ := cs
  match l, hsz with
  | [a, b], _ => exact ⟨a, b, rfl⟩
 have e0 := hel 0 (by omega)
 have e1 := hel 1 (by omega)
 simp only [cells1] at e0 e1
 rw [List.getElem?_eq_getElem (by omega)] at e0 e1
 obtain ⟨n0, h0, _, w0⟩ := DataW.trod_int Try.underlying3 e0
 obtain ⟨n1, h1, _, w1⟩ := DataW.trod_int Try.underlying3 e1
 refine ⟨n0, n1, ?_, w0, w1⟩
 simp [Value.cells] at h0 h1
 rw [h0, h1]
end
end Go.Proofs.Ytnfmeafiaipplaa.Open
