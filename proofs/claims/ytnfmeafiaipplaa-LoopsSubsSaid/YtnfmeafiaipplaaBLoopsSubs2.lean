-- Written by wip/bundle2.py: texts of this claim, one behind the other.
import Derived.Test.YtnfmeafiaipplaaBLoopsSubs1
set_option linter.unusedVariables false
set_option linter.unusedSimpArgs false

namespace Go.Proofs.Ytnfmeafiaipplaa.S
open Go.Proofs.Ytnfmeafiaipplaa.Lib
open Go.Maps (Keyed)
open Go.RowKit Go.Proofs.YtnfmeafiaipplaaW.PrintWords Go.Proofs.YtnfmeafiaipplaaW.PrintLast Go.Proofs.YtnfmeafiaipplaaW.PrintMore
attribute [local go_sem] max2_int min2_int max_two min_two max_three min_three max_four min_four
set_option linter.unusedVariables false
set_option linter.unusedSimpArgs false

def tickinglaw06_awake.j0 : Nat → Bool → Option (Bool)
 | 0, _ => none
 | k + 1, x87 => if x87 = true then (some false) else (some true)
def tickinglaw06_awake.f (k : Nat)  : Option (Bool) := (some (([(⟨4, 1, 0⟩ : S39), (⟨2, 0, 0⟩ : S39), (⟨3, 0, 0⟩ : S39), (⟨5, 4, 1⟩ : S39), (⟨1, 0, 0⟩ : S39), (⟨5, 1, 4⟩ : S39)] : List (S39)) : List (S39))).bind fun y167 => ((loops_Sub.f k y167 1 2).bind fun bt170 => ((loops_Sub.f k y167 3 5).bind fun bt177 => ((loops_Canonical.f k y167 0).bind fun bt184 => ((loops_Depth.f k y167 3).bind fun bt188 => ((loops_Depth.f k y167 0).bind fun bt190 => (if bt170.2.2.2 = 0 then (if bt170.1 = true then (tickinglaw06_awake.j0 k true) else (if bt170.2.2.1.toList = ([] : List UInt8) then (if bt177.2.2.2 = 0 then (if bt177.1 = true then (if bt184.2 = 0 then ((tickinglaw06_types.f k bt184.1 (([(⟨4, 1, 0⟩ : S39), (⟨2, 0, 0⟩ : S39)] : List (S39)))).bind fun t195 => (if t195 = true then (if bt188.2 = 0 then (if bt188.1 = 1 then (tickinglaw06_awake.j0 k (bt190.2 != 6)) else (tickinglaw06_awake.j0 k true)) else (tickinglaw06_awake.j0 k true)) else (tickinglaw06_awake.j0 k true))) else (tickinglaw06_awake.j0 k true)) else (tickinglaw06_awake.j0 k true)) else (tickinglaw06_awake.j0 k true)) else (tickinglaw06_awake.j0 k true))) else (tickinglaw06_awake.j0 k true)))))))
theorem tickinglaw06_awake.mono_l : ∀ k, (∀ y0, LeO (tickinglaw06_awake.j0 k y0) (tickinglaw06_awake.j0 (k + 1) y0))
 | 0 => fun _ r h => by simp [tickinglaw06_awake.j0] at h
 | k + 1 => by
  have ih0 := tickinglaw06_awake.mono_l k
  ·intro y0
   unfold tickinglaw06_awake.j0
   repeat' first
   | (with_reducible exact ih0 _)
   | (with_reducible exact loops_Canonical.mono _ _ _)
   | (with_reducible exact loops_Depth.mono _ _ _)
   | (with_reducible exact loops_Sub.mono _ _ _ _)
   | (with_reducible exact tickinglaw06_types.mono _ _ _)
   | (with_reducible exact LeO.refl _)
   | (with_reducible exact LeO.none _)
   | (with_reducible refine LeO.ite ?_ ?_)
   | (with_reducible refine LeO.bind ?_ (fun _ => ?_))
   | exact ih0 _
   | exact loops_Canonical.mono _ _ _
   | exact loops_Depth.mono _ _ _
   | exact loops_Sub.mono _ _ _ _
   | exact tickinglaw06_types.mono _ _ _
   | exact LeO.none _
   | refine LeO.ite ?_ ?_
   | refine LeO.bind ?_ (fun _ => ?_)
theorem tickinglaw06_awake.mono : ∀ k, LeO (tickinglaw06_awake.f k ) (tickinglaw06_awake.f (k + 1) ) := by
 intro  k
 have ih0 := tickinglaw06_awake.mono_l k
 unfold tickinglaw06_awake.f
 repeat' first
   | (with_reducible exact ih0 _)
   | (with_reducible exact loops_Canonical.mono _ _ _)
   | (with_reducible exact loops_Depth.mono _ _ _)
   | (with_reducible exact loops_Sub.mono _ _ _ _)
   | (with_reducible exact tickinglaw06_types.mono _ _ _)
   | (with_reducible exact LeO.refl _)
   | (with_reducible exact LeO.none _)
   | (with_reducible refine LeO.ite ?_ ?_)
   | (with_reducible refine LeO.bind ?_ (fun _ => ?_))
   | exact ih0 _
   | exact loops_Canonical.mono _ _ _
   | exact loops_Depth.mono _ _ _
   | exact loops_Sub.mono _ _ _ _
   | exact tickinglaw06_types.mono _ _ _
   | exact LeO.none _
   | refine LeO.ite ?_ ?_
   | refine LeO.bind ?_ (fun _ => ?_)
set_option maxHeartbeats 8000000 in
set_option maxRecDepth 100000 in
theorem tickinglaw06_awake.calls (k : Nat)  (r : Bool) (w : World) (h : tickinglaw06_awake.f k  = some r) :
  Calls Try.prog 19 #[] w fun e w' => e = .returned (.bool r) ∧ Below w.heap.size w w' := by
 have hu39 := Try.underlying39
 have hu55 := Try.underlying55
 have HB := Aside0.mk (Below.refl w.heap.size w)
 have H : ((some (([(⟨4, 1, 0⟩ : S39), (⟨2, 0, 0⟩ : S39), (⟨3, 0, 0⟩ : S39), (⟨5, 4, 1⟩ : S39), (⟨1, 0, 0⟩ : S39), (⟨5, 1, 4⟩ : S39)] : List (S39)) : List (S39))).bind fun y167 => ((loops_Sub.f k y167 1 2).bind fun bt170 => ((loops_Sub.f k y167 3 5).bind fun bt177 => ((loops_Canonical.f k y167 0).bind fun bt184 => ((loops_Depth.f k y167 3).bind fun bt188 => ((loops_Depth.f k y167 0).bind fun bt190 => (if bt170.2.2.2 = 0 then (if bt170.1 = true then (tickinglaw06_awake.j0 k true) else (if bt170.2.2.1.toList = ([] : List UInt8) then (if bt177.2.2.2 = 0 then (if bt177.1 = true then (if bt184.2 = 0 then ((tickinglaw06_types.f k bt184.1 (([(⟨4, 1, 0⟩ : S39), (⟨2, 0, 0⟩ : S39)] : List (S39)))).bind fun t195 => (if t195 = true then (if bt188.2 = 0 then (if bt188.1 = 1 then (tickinglaw06_awake.j0 k (bt190.2 != 6)) else (tickinglaw06_awake.j0 k true)) else (tickinglaw06_awake.j0 k true)) else (tickinglaw06_awake.j0 k true))) else (tickinglaw06_awake.j0 k true)) else (tickinglaw06_awake.j0 k true)) else (tickinglaw06_awake.j0 k true)) else (tickinglaw06_awake.j0 k true))) else (tickinglaw06_awake.j0 k true)))))))) = some r := h
 clear h
 obtain ⟨y167, hy167⟩ : ∃ y_ : List (S39), y_ = (([(⟨4, 1, 0⟩ : S39), (⟨2, 0, 0⟩ : S39), (⟨3, 0, 0⟩ : S39), (⟨5, 4, 1⟩ : S39), (⟨1, 0, 0⟩ : S39), (⟨5, 1, 4⟩ : S39)] : List (S39))) := ⟨_, rfl⟩
 replace H : ((loops_Sub.f k y167 1 2).bind fun bt170 => ((loops_Sub.f k y167 3 5).bind fun bt177 => ((loops_Canonical.f k y167 0).bind fun bt184 => ((loops_Depth.f k y167 3).bind fun bt188 => ((loops_Depth.f k y167 0).bind fun bt190 => (if bt170.2.2.2 = 0 then (if bt170.1 = true then (tickinglaw06_awake.j0 k true) else (if bt170.2.2.1.toList = ([] : List UInt8) then (if bt177.2.2.2 = 0 then (if bt177.1 = true then (if bt184.2 = 0 then ((tickinglaw06_types.f k bt184.1 (([(⟨4, 1, 0⟩ : S39), (⟨2, 0, 0⟩ : S39)] : List (S39)))).bind fun t195 => (if t195 = true then (if bt188.2 = 0 then (if bt188.1 = 1 then (tickinglaw06_awake.j0 k (bt190.2 != 6)) else (tickinglaw06_awake.j0 k true)) else (tickinglaw06_awake.j0 k true)) else (tickinglaw06_awake.j0 k true))) else (tickinglaw06_awake.j0 k true)) else (tickinglaw06_awake.j0 k true)) else (tickinglaw06_awake.j0 k true)) else (tickinglaw06_awake.j0 k true))) else (tickinglaw06_awake.j0 k true))))))) = some r := by first | (rw [hy167]; with_reducible exact H) | (have H2_ := (Option.bind_some _ _).symm.trans H; rw [hy167]; with_reducible exact H2_) | (have H2_ := (Option.bind_some _ _).symm.trans H; with_reducible exact H2_) | with_reducible exact H | (rw [hy167]; exact H) | exact H
 have Ny167 := Aside0.mk hy167
 clear hy167
 replace H := Option.bind_eq_some_iff.mp H
 obtain ⟨⟨t170, t171, t174, t175⟩, A10, H⟩ := H
 replace H : ((loops_Sub.f k y167 3 5).bind fun bt177 => ((loops_Canonical.f k y167 0).bind fun bt184 => ((loops_Depth.f k y167 3).bind fun bt188 => ((loops_Depth.f k y167 0).bind fun bt190 => (if t175 = 0 then (if t170 = true then (tickinglaw06_awake.j0 k true) else (if t174.toList = ([] : List UInt8) then (if bt177.2.2.2 = 0 then (if bt177.1 = true then (if bt184.2 = 0 then ((tickinglaw06_types.f k bt184.1 (([(⟨4, 1, 0⟩ : S39), (⟨2, 0, 0⟩ : S39)] : List (S39)))).bind fun t195 => (if t195 = true then (if bt188.2 = 0 then (if bt188.1 = 1 then (tickinglaw06_awake.j0 k (bt190.2 != 6)) else (tickinglaw06_awake.j0 k true)) else (tickinglaw06_awake.j0 k true)) else (tickinglaw06_awake.j0 k true))) else (tickinglaw06_awake.j0 k true)) else (tickinglaw06_awake.j0 k true)) else (tickinglaw06_awake.j0 k true)) else (tickinglaw06_awake.j0 k true))) else (tickinglaw06_awake.j0 k true)))))) = some r := H
 have A1 := Aside0.mk A10
 clear A10
 replace H := Option.bind_eq_some_iff.mp H
 obtain ⟨⟨t177, t178, t181, t182⟩, A20, H⟩ := H
 replace H : ((loops_Canonical.f k y167 0).bind fun bt184 => ((loops_Depth.f k y167 3).bind fun bt188 => ((loops_Depth.f k y167 0).bind fun bt190 => (if t175 = 0 then (if t170 = true then (tickinglaw06_awake.j0 k true) else (if t174.toList = ([] : List UInt8) then (if t182 = 0 then (if t177 = true then (if bt184.2 = 0 then ((tickinglaw06_types.f k bt184.1 (([(⟨4, 1, 0⟩ : S39), (⟨2, 0, 0⟩ : S39)] : List (S39)))).bind fun t195 => (if t195 = true then (if bt188.2 = 0 then (if bt188.1 = 1 then (tickinglaw06_awake.j0 k (bt190.2 != 6)) else (tickinglaw06_awake.j0 k true)) else (tickinglaw06_awake.j0 k true)) else (tickinglaw06_awake.j0 k true))) else (tickinglaw06_awake.j0 k true)) else (tickinglaw06_awake.j0 k true)) else (tickinglaw06_awake.j0 k true)) else (tickinglaw06_awake.j0 k true))) else (tickinglaw06_awake.j0 k true))))) = some r := H
 have A2 := Aside0.mk A20
 clear A20
 replace H := Option.bind_eq_some_iff.mp H
 obtain ⟨⟨t184, t185⟩, A30, H⟩ := H
 replace H : ((loops_Depth.f k y167 3).bind fun bt188 => ((loops_Depth.f k y167 0).bind fun bt190 => (if t175 = 0 then (if t170 = true then (tickinglaw06_awake.j0 k true) else (if t174.toList = ([] : List UInt8) then (if t182 = 0 then (if t177 = true then (if t185 = 0 then ((tickinglaw06_types.f k t184 (([(⟨4, 1, 0⟩ : S39), (⟨2, 0, 0⟩ : S39)] : List (S39)))).bind fun t195 => (if t195 = true then (if bt188.2 = 0 then (if bt188.1 = 1 then (tickinglaw06_awake.j0 k (bt190.2 != 6)) else (tickinglaw06_awake.j0 k true)) else (tickinglaw06_awake.j0 k true)) else (tickinglaw06_awake.j0 k true))) else (tickinglaw06_awake.j0 k true)) else (tickinglaw06_awake.j0 k true)) else (tickinglaw06_awake.j0 k true)) else (tickinglaw06_awake.j0 k true))) else (tickinglaw06_awake.j0 k true)))) = some r := H
 have A3 := Aside0.mk A30
 clear A30
 replace H := Option.bind_eq_some_iff.mp H
 obtain ⟨⟨t188, t189⟩, A40, H⟩ := H
 replace H : ((loops_Depth.f k y167 0).bind fun bt190 => (if t175 = 0 then (if t170 = true then (tickinglaw06_awake.j0 k true) else (if t174.toList = ([] : List UInt8) then (if t182 = 0 then (if t177 = true then (if t185 = 0 then ((tickinglaw06_types.f k t184 (([(⟨4, 1, 0⟩ : S39), (⟨2, 0, 0⟩ : S39)] : List (S39)))).bind fun t195 => (if t195 = true then (if t189 = 0 then (if t188 = 1 then (tickinglaw06_awake.j0 k (bt190.2 != 6)) else (tickinglaw06_awake.j0 k true)) else (tickinglaw06_awake.j0 k true)) else (tickinglaw06_awake.j0 k true))) else (tickinglaw06_awake.j0 k true)) else (tickinglaw06_awake.j0 k true)) else (tickinglaw06_awake.j0 k true)) else (tickinglaw06_awake.j0 k true))) else (tickinglaw06_awake.j0 k true))) = some r := H
 have A4 := Aside0.mk A40
 clear A40
 replace H := Option.bind_eq_some_iff.mp H
 obtain ⟨⟨t190, t191⟩, A50, H⟩ := H
 replace H : (if t175 = 0 then (if t170 = true then (tickinglaw06_awake.j0 k true) else (if t174.toList = ([] : List UInt8) then (if t182 = 0 then (if t177 = true then (if t185 = 0 then ((tickinglaw06_types.f k t184 (([(⟨4, 1, 0⟩ : S39), (⟨2, 0, 0⟩ : S39)] : List (S39)))).bind fun t195 => (if t195 = true then (if t189 = 0 then (if t188 = 1 then (tickinglaw06_awake.j0 k (t191 != 6)) else (tickinglaw06_awake.j0 k true)) else (tickinglaw06_awake.j0 k true)) else (tickinglaw06_awake.j0 k true))) else (tickinglaw06_awake.j0 k true)) else (tickinglaw06_awake.j0 k true)) else (tickinglaw06_awake.j0 k true)) else (tickinglaw06_awake.j0 k true))) else (tickinglaw06_awake.j0 k true)) = some r := H
 have A5 := Aside0.mk A50
 clear A50
 have HC6 := Aside0.mk H
 clear H
 go_enter Try.func19, Try.ntmps19
 go_upto_region 7 with (first | ((with_reducible refine gate_dst (N := 18) rfl ?_); (try (refine gate_guard (by rfl) ?_; dsimp only)); refine Kd.R_lit k39 _ 39 ?hg (N := 18) ?hd (xs := ([(⟨4, 1, 0⟩ : S39), (⟨2, 0, 0⟩ : S39), (⟨3, 0, 0⟩ : S39), (⟨5, 4, 1⟩ : S39), (⟨1, 0, 0⟩ : S39), (⟨5, 1, 4⟩ : S39)] : List (S39))) (inner := [.int .i64 4, .int .i64 1, .int .i64 0, .int .i64 2, .int .i64 0, .int .i64 0, .int .i64 3, .int .i64 0, .int .i64 0, .int .i64 5, .int .i64 4, .int .i64 1, .int .i64 1, .int .i64 0, .int .i64 0, .int .i64 5, .int .i64 1, .int .i64 4]) (ok := fun _ => True) (okp := fun _ => True) ?hr ?hp (fun _ hk => hk) trivial (Below.refl _ _) (Nat.le_refl _) (by simp) ?_; (case hd => rfl); (case hg => rfl); (case hr => first | (go_simp; done) | (go_simp; rfl)); (case hp => exact (Reps.c3 (show Kd.M k39 _ _ _ (⟨4, 1, 0⟩ : S39) [.int .i64 4, .int .i64 1, .int .i64 0] from (k39_mkM _ _ _ (⟨4, 1, 0⟩ : S39) )) (Reps.c3 (show Kd.M k39 _ _ _ (⟨2, 0, 0⟩ : S39) [.int .i64 2, .int .i64 0, .int .i64 0] from (k39_mkM _ _ _ (⟨2, 0, 0⟩ : S39) )) (Reps.c3 (show Kd.M k39 _ _ _ (⟨3, 0, 0⟩ : S39) [.int .i64 3, .int .i64 0, .int .i64 0] from (k39_mkM _ _ _ (⟨3, 0, 0⟩ : S39) )) (Reps.c3 (show Kd.M k39 _ _ _ (⟨5, 4, 1⟩ : S39) [.int .i64 5, .int .i64 4, .int .i64 1] from (k39_mkM _ _ _ (⟨5, 4, 1⟩ : S39) )) (Reps.c3 (show Kd.M k39 _ _ _ (⟨1, 0, 0⟩ : S39) [.int .i64 1, .int .i64 0, .int .i64 0] from (k39_mkM _ _ _ (⟨1, 0, 0⟩ : S39) )) (Reps.c3 (show Kd.M k39 _ _ _ (⟨5, 1, 4⟩ : S39) [.int .i64 5, .int .i64 1, .int .i64 4] from (k39_mkM _ _ _ (⟨5, 1, 4⟩ : S39) )) (Reps.none _ _)))))))); intro v168 w7 ho8 hb hg_ hnew_; clear hg_ hnew_; (first | rw [← Ny167.out] at ho8 | (simp only [Int.reduceToNat] at ho8; rw [← Ny167.out] at ho8)); have n0_ := Aside0.mk (Kd.R_lower ho8 (below_size (by repeat (first | (with_reducible first | exact HB.out | apply below_alloc | apply pw_below_drewN | apply below_drew1) | exact HB.out)))); have n1_ := Aside0.mk (below_step (by repeat (first | (with_reducible first | exact HB.out | apply below_alloc | apply pw_below_drewN | apply below_drew1) | exact HB.out)) hb); clear HB; have HO169 := n0_; have HB := n1_; clear n0_ n1_; clear hb ho8; obtain ⟨Ao9, co9, eo9⟩ := Kd.R_slice HO169.out; subst eo9) | ((with_reducible refine gate_callee (f := 33) rfl ?_); refine goesL_ (some 21) rfl rfl Try.func33 (by kernel_rfl) rfl #[.slice Ao9 y167.length co9, .int .i64 1, .int .i64 2] rfl (by (try simp only [List.map_toArray, List.map_cons, List.map_nil]); first | done | rfl | (simp only [List.length_drop, List.length_take]; rfl)) ?_; (with_reducible refine (loops_Sub.calls k _ _ y167 1 2 t170 t171 t174 t175 _ ?side1 ?side2 A1.out).mono ?_); (case side1 => repeat (first | exact (Kd.R_reads' HO169.out).2.2 | (with_reducible refine Kd.C_alloc ?_ _) | (with_reducible refine Kd.C_drewN ?_ _) | (with_reducible refine Kd.C_drew ?_))); (case side2 => exact (Kd.R_reads' HO169.out).2.1); rintro e w10 ⟨v172, rfl, ho0, hb⟩; refine ⟨_, rfl, ?_⟩; have n0_ := Aside0.mk (Kd.R_below (by (with_reducible repeat (first | apply Kd.R_alloc | apply Kd.R_drewN | apply Kd.R_drew)); exact HO169.out) hb); have n1_ := Aside0.mk (Kd.R_lower ho0 (below_size (by repeat (first | (with_reducible first | exact HB.out | apply below_alloc | apply pw_below_drewN | apply below_drew1) | exact HB.out)))); have n2_ := Aside0.mk (below_step (by repeat (first | (with_reducible first | exact HB.out | apply below_alloc | apply pw_below_drewN | apply below_drew1) | exact HB.out)) hb); clear HO169; clear HB; have HO169 := n0_; have HO173 := n1_; have HB := n2_; clear n0_ n1_ n2_; (try clear hb); (try clear hb2); (try clear hk); (try clear hi); (try clear ho0)) | ((with_reducible refine gate_dst (N := 2) rfl ?_); (try (refine gate_guard (by rfl) ?_; dsimp only)); refine box_event ?hg (N := 2) ?hd (cs := #[.bool false, .slice none 0 0, .string (⟨#[]⟩ : ByteArray)]) (t := 55) ?hr ?_; (case hd => rfl); (case hg => rfl); (case hr => first | (go_simp; done) | (go_simp; rfl)); intro gb176 hg w11 hbox hb; have n0_ := Aside0.mk (Kd.R_below (by (with_reducible repeat (first | apply Kd.R_alloc | apply Kd.R_drewN | apply Kd.R_drew)); exact HO169.out) hb); have n1_ := Aside0.mk (Kd.R_below (by (with_reducible repeat (first | apply Kd.R_alloc | apply Kd.R_drewN | apply Kd.R_drew)); exact HO173.out) hb); have n2_ := Aside0.mk (below_step (by repeat (first | (with_reducible first | exact HB.out | apply below_alloc | apply pw_below_drewN | apply below_drew1) | exact HB.out)) hb); have n3_ := Aside0.mk (hbox); have n4_ := Aside0.mk ((by rw [hg]; exact (below_size (by repeat (first | (with_reducible first | exact HB.out | apply below_alloc | apply pw_below_drewN | apply below_drew1) | exact HB.out))) : w.heap.size ≤ gb176)); have n5_ := Aside0.mk ((by rw [hg]; exact (below_size (by repeat (first | (with_reducible first | exact HB.out | apply below_alloc | apply pw_below_drewN | apply below_drew1) | exact HB.out))) : w.heap.size ≤ gb176)); clear HO169; clear HO173; clear HB; have HO169 := n0_; have HO173 := n1_; have HB := n2_; have BK176 := n3_; have GW176 := n4_; have GE176 := n5_; clear n0_ n1_ n2_ n3_ n4_ n5_; clear hb hbox hg; have hcz12_0 : w11.cell? ⟨gb176, 0, none⟩ = some (.bool false) := (blk_cell BK176.out 0).trans rfl; have hcz12_1 : w11.cell? ⟨gb176, 1, none⟩ = some (.slice none 0 0) := (blk_cell BK176.out 1).trans rfl; have hcz12_2 : w11.cell? ⟨gb176, 2, none⟩ = some (.string (⟨#[]⟩ : ByteArray)) := (blk_cell BK176.out 2).trans rfl; have hfz12_0 := blk_frozen BK176.out 0; have hfz12_1 := blk_frozen BK176.out 1; have hfz12_2 := blk_frozen BK176.out 2; obtain ⟨Ao13, co13, eo13⟩ := Kd.R_slice HO173.out; subst eo13) | ((with_reducible refine gate_callee (f := 33) rfl ?_); refine goesL_ (some 26) rfl rfl Try.func33 (by kernel_rfl) rfl #[.slice Ao9 y167.length co9, .int .i64 3, .int .i64 5] rfl (by (try simp only [List.map_toArray, List.map_cons, List.map_nil]); first | done | rfl | (simp only [List.length_drop, List.length_take]; rfl)) ?_; (with_reducible refine (loops_Sub.calls k _ _ y167 3 5 t177 t178 t181 t182 _ ?side1 ?side2 A2.out).mono ?_); (case side1 => refine (Kd.R_reads' (e := 39) (base := w.heap.size) (ok := fun k_ => True) (n := y167.length) (c := co9) ?_).2.2; exact (by (with_reducible repeat (first | apply Kd.R_alloc | apply Kd.R_drewN | apply Kd.R_drew)); exact (Kd.R_mono (Kd.R_far (p := ⟨gb176, 2, none⟩) (Kd.R_far (p := ⟨gb176, 1, none⟩) (Kd.R_far (p := ⟨gb176, 0, none⟩) (Kd.R_types HO169.out BK176.out (by decide)) (fun _ hk => hk.2) (.bool t170)) (fun _ hk => hk.2) (.slice Ao13 t171.length co13)) (fun _ hk => hk.2) (.string t174)) (fun _ h_ => h_.1)))); (case side2 => exact (Kd.R_reads' HO169.out).2.1); rintro e w14 ⟨v179, rfl, ho0, hb⟩; refine ⟨_, rfl, ?_⟩; have n0_ := Aside0.mk (Kd.R_below (by (with_reducible repeat (first | apply Kd.R_alloc | apply Kd.R_drewN | apply Kd.R_drew)); exact (Kd.R_mono (Kd.R_far (p := ⟨gb176, 2, none⟩) (Kd.R_far (p := ⟨gb176, 1, none⟩) (Kd.R_far (p := ⟨gb176, 0, none⟩) (Kd.R_types HO169.out BK176.out (by decide)) (fun _ hk => hk.2) (.bool t170)) (fun _ hk => hk.2) (.slice Ao13 t171.length co13)) (fun _ hk => hk.2) (.string t174)) (fun _ h_ => h_.1))) hb); have n1_ := Aside0.mk (Kd.R_elder' (by (with_reducible repeat (first | apply Kd.R_alloc | apply Kd.R_drewN | apply Kd.R_drew)); exact (Kd.R_mono (Kd.R_far (p := ⟨gb176, 2, none⟩) (Kd.R_far (p := ⟨gb176, 1, none⟩) (Kd.R_far (p := ⟨gb176, 0, none⟩) (Kd.R_types HO173.out BK176.out (by decide)) (fun _ hk => hk.2) (.bool t170)) (fun _ hk => hk.2) (.slice Ao13 t171.length co13)) (fun _ hk => hk.2) (.string t174)) (fun _ h_ => h_.1))) (Kd.R_base ho0) hb); have n2_ := Aside0.mk (Kd.R_lower (Kd.R_new' ho0 (Kd.R_lt (by (with_reducible repeat (first | apply Kd.R_alloc | apply Kd.R_drewN | apply Kd.R_drew)); exact (Kd.R_mono (Kd.R_far (p := ⟨gb176, 2, none⟩) (Kd.R_far (p := ⟨gb176, 1, none⟩) (Kd.R_far (p := ⟨gb176, 0, none⟩) (Kd.R_types HO173.out BK176.out (by decide)) (fun _ hk => hk.2) (.bool t170)) (fun _ hk => hk.2) (.slice Ao13 t171.length co13)) (fun _ hk => hk.2) (.string t174)) (fun _ h_ => h_.1))))) (below_size (by repeat (first | (with_reducible first | exact HB.out | apply below_alloc | apply pw_below_drewN | apply below_drew1 | refine below_set ?_ GE176.out) | exact HB.out)))); have n3_ := Aside0.mk (blk_below (g := gb176) (o := .cells #[.bool t170, .slice Ao13 t171.length co13, .string t174] 55 (0, 0)) (by (with_reducible repeat (first | refine blk_drewN ?_ _ | refine blk_drew ?_ | refine blk_alloc ?_ _)); refine blk_put (cs := #[.bool t170, .slice Ao13 t171.length co13, .string (⟨#[]⟩ : ByteArray)]) ?_ 2 _ rfl; (with_reducible repeat (first | refine blk_drewN ?_ _ | refine blk_drew ?_ | refine blk_alloc ?_ _)); refine blk_put (cs := #[.bool t170, .slice none 0 0, .string (⟨#[]⟩ : ByteArray)]) ?_ 1 _ rfl; (with_reducible repeat (first | refine blk_drewN ?_ _ | refine blk_drew ?_ | refine blk_alloc ?_ _)); refine blk_put (cs := #[.bool false, .slice none 0 0, .string (⟨#[]⟩ : ByteArray)]) ?_ 0 _ rfl; (with_reducible repeat (first | refine blk_drewN ?_ _ | refine blk_drew ?_ | refine blk_alloc ?_ _)); exact BK176.out) hb); have n4_ := Aside0.mk (below_step (by repeat (first | (with_reducible first | exact HB.out | apply below_alloc | apply pw_below_drewN | apply below_drew1 | refine below_set ?_ GE176.out) | exact HB.out)) hb); clear HO169; clear HO173; clear BK176; clear HB; have HO169 := n0_; have HO173 := n1_; have HO180 := n2_; have BK176 := n3_; have HB := n4_; clear n0_ n1_ n2_ n3_ n4_; (try clear hb); (try clear hb2); (try clear hk); (try clear hi); (try clear ho0)) | ((with_reducible refine gate_dst (N := 4) rfl ?_); (try (refine gate_guard (by rfl) ?_; dsimp only)); refine box_event ?hg (N := 4) ?hd (cs := #[.bool false, .slice none 0 0, .string (⟨#[]⟩ : ByteArray)]) (t := 55) ?hr ?_; (case hd => rfl); (case hg => rfl); (case hr => first | (go_simp; done) | (go_simp; rfl)); intro gb183 hg w15 hbox hb; have n0_ := Aside0.mk (Kd.R_below (by (with_reducible repeat (first | apply Kd.R_alloc | apply Kd.R_drewN | apply Kd.R_drew)); exact HO169.out) hb); have n1_ := Aside0.mk (Kd.R_below (by (with_reducible repeat (first | apply Kd.R_alloc | apply Kd.R_drewN | apply Kd.R_drew)); exact HO173.out) hb); have n2_ := Aside0.mk (Kd.R_below (by (with_reducible repeat (first | apply Kd.R_alloc | apply Kd.R_drewN | apply Kd.R_drew)); exact HO180.out) hb); have n3_ := Aside0.mk (blk_below (g := gb176) (o := .cells #[.bool t170, .slice Ao13 t171.length co13, .string t174] 55 (0, 0)) (by (with_reducible repeat (first | refine blk_drewN ?_ _ | refine blk_drew ?_ | refine blk_alloc ?_ _)); exact BK176.out) hb); have n4_ := Aside0.mk (below_step (by repeat (first | (with_reducible first | exact HB.out | apply below_alloc | apply pw_below_drewN | apply below_drew1 | refine below_set ?_ GE176.out) | exact HB.out)) hb); have n5_ := Aside0.mk (hbox); have n6_ := Aside0.mk ((by rw [hg]; exact (below_size (by repeat (first | (with_reducible first | exact HB.out | apply below_alloc | apply pw_below_drewN | apply below_drew1 | refine below_set ?_ GE176.out) | exact HB.out))) : w.heap.size ≤ gb183)); have n7_ := Aside0.mk ((by rw [hg]; exact (below_size (by repeat (first | (with_reducible first | exact HB.out | apply below_alloc | apply pw_below_drewN | apply below_drew1 | refine below_set ?_ GE176.out) | exact HB.out))) : w.heap.size ≤ gb183)); have n8_ := Aside0.mk ((by rw [hg]; exact Nat.ne_of_lt (blk_lt (g := gb176) (o := .cells #[.bool t170, .slice Ao13 t171.length co13, .string t174] 55 (0, 0)) (by (with_reducible repeat (first | refine blk_drewN ?_ _ | refine blk_drew ?_ | refine blk_alloc ?_ _)); exact BK176.out)) : gb176 ≠ gb183)); have n9_ := Aside0.mk ((by rw [hg]; exact Nat.ne_of_gt (blk_lt (g := gb176) (o := .cells #[.bool t170, .slice Ao13 t171.length co13, .string t174] 55 (0, 0)) (by (with_reducible repeat (first | refine blk_drewN ?_ _ | refine blk_drew ?_ | refine blk_alloc ?_ _)); exact BK176.out)) : gb183 ≠ gb176)); clear HO169; clear HO173; clear HO180; clear BK176; clear HB; have HO169 := n0_; have HO173 := n1_; have HO180 := n2_; have BK176 := n3_; have HB := n4_; have BK183 := n5_; have GW183 := n6_; have GE183 := n7_; have NB176_183 := n8_; have NB183_176 := n9_; clear n0_ n1_ n2_ n3_ n4_ n5_ n6_ n7_ n8_ n9_; clear hb hbox hg; have hnb16 := NB183_176.out; have hnc16 := NB176_183.out; have hcz17_0 : w15.cell? ⟨gb183, 0, none⟩ = some (.bool false) := (blk_cell BK183.out 0).trans rfl; have hcz17_1 : w15.cell? ⟨gb183, 1, none⟩ = some (.slice none 0 0) := (blk_cell BK183.out 1).trans rfl; have hcz17_2 : w15.cell? ⟨gb183, 2, none⟩ = some (.string (⟨#[]⟩ : ByteArray)) := (blk_cell BK183.out 2).trans rfl; have hfz17_0 := blk_frozen BK183.out 0; have hfz17_1 := blk_frozen BK183.out 1; have hfz17_2 := blk_frozen BK183.out 2; obtain ⟨Ao18, co18, eo18⟩ := Kd.R_slice HO180.out; subst eo18) | ((with_reducible refine gate_callee (f := 17) rfl ?_); refine goesL_ (some 31) rfl rfl Try.func17 (by kernel_rfl) rfl #[.slice Ao9 y167.length co9, .int .i64 0] rfl (by (try simp only [List.map_toArray, List.map_cons, List.map_nil]); first | done | rfl | (simp only [List.length_drop, List.length_take]; rfl)) ?_; (with_reducible refine (loops_Canonical.calls k _ _ y167 0 t184 t185 _ ?side1 ?side2 A3.out).mono ?_); (case side1 => refine (Kd.R_reads' (e := 39) (base := w.heap.size) (ok := fun k_ => True) (n := y167.length) (c := co9) ?_).2.2; exact (by (with_reducible repeat (first | apply Kd.R_alloc | apply Kd.R_drewN | apply Kd.R_drew)); exact (Kd.R_mono (Kd.R_far (p := ⟨gb183, 2, none⟩) (Kd.R_far (p := ⟨gb183, 1, none⟩) (Kd.R_far (p := ⟨gb183, 0, none⟩) (Kd.R_types HO169.out BK183.out (by decide)) (fun _ hk => hk.2) (.bool t177)) (fun _ hk => hk.2) (.slice Ao18 t178.length co18)) (fun _ hk => hk.2) (.string t181)) (fun _ h_ => h_.1)))); (case side2 => exact (Kd.R_reads' HO169.out).2.1); rintro e w19 ⟨v186, rfl, ho0, hb⟩; refine ⟨_, rfl, ?_⟩; have n0_ := Aside0.mk (Kd.R_elder' (by (with_reducible repeat (first | apply Kd.R_alloc | apply Kd.R_drewN | apply Kd.R_drew)); exact (Kd.R_mono (Kd.R_far (p := ⟨gb183, 2, none⟩) (Kd.R_far (p := ⟨gb183, 1, none⟩) (Kd.R_far (p := ⟨gb183, 0, none⟩) (Kd.R_types HO169.out BK183.out (by decide)) (fun _ hk => hk.2) (.bool t177)) (fun _ hk => hk.2) (.slice Ao18 t178.length co18)) (fun _ hk => hk.2) (.string t181)) (fun _ h_ => h_.1))) (Kd.R_base ho0) hb); have n1_ := Aside0.mk (Kd.R_below (by (with_reducible repeat (first | apply Kd.R_alloc | apply Kd.R_drewN | apply Kd.R_drew)); exact (Kd.R_mono (Kd.R_far (p := ⟨gb183, 2, none⟩) (Kd.R_far (p := ⟨gb183, 1, none⟩) (Kd.R_far (p := ⟨gb183, 0, none⟩) (Kd.R_types HO173.out BK183.out (by decide)) (fun _ hk => hk.2) (.bool t177)) (fun _ hk => hk.2) (.slice Ao18 t178.length co18)) (fun _ hk => hk.2) (.string t181)) (fun _ h_ => h_.1))) hb); have n2_ := Aside0.mk (Kd.R_below (by (with_reducible repeat (first | apply Kd.R_alloc | apply Kd.R_drewN | apply Kd.R_drew)); exact (Kd.R_mono (Kd.R_far (p := ⟨gb183, 2, none⟩) (Kd.R_far (p := ⟨gb183, 1, none⟩) (Kd.R_far (p := ⟨gb183, 0, none⟩) (Kd.R_types HO180.out BK183.out (by decide)) (fun _ hk => hk.2) (.bool t177)) (fun _ hk => hk.2) (.slice Ao18 t178.length co18)) (fun _ hk => hk.2) (.string t181)) (fun _ h_ => h_.1))) hb); have n3_ := Aside0.mk (Kd.R_lower (Kd.R_new' ho0 (Kd.R_lt (by (with_reducible repeat (first | apply Kd.R_alloc | apply Kd.R_drewN | apply Kd.R_drew)); exact (Kd.R_mono (Kd.R_far (p := ⟨gb183, 2, none⟩) (Kd.R_far (p := ⟨gb183, 1, none⟩) (Kd.R_far (p := ⟨gb183, 0, none⟩) (Kd.R_types HO169.out BK183.out (by decide)) (fun _ hk => hk.2) (.bool t177)) (fun _ hk => hk.2) (.slice Ao18 t178.length co18)) (fun _ hk => hk.2) (.string t181)) (fun _ h_ => h_.1))))) (below_size (by repeat (first | (with_reducible first | exact HB.out | apply below_alloc | apply pw_below_drewN | apply below_drew1 | refine below_set ?_ GE176.out | refine below_set ?_ GE183.out) | exact HB.out)))); have n4_ := Aside0.mk (blk_below (g := gb176) (o := .cells #[.bool t170, .slice Ao13 t171.length co13, .string t174] 55 (0, 0)) (by (with_reducible repeat (first | refine blk_drewN ?_ _ | refine blk_drew ?_ | refine blk_alloc ?_ _)); refine blk_far ?_ NB176_183.out _; (with_reducible repeat (first | refine blk_drewN ?_ _ | refine blk_drew ?_ | refine blk_alloc ?_ _)); refine blk_far ?_ NB176_183.out _; (with_reducible repeat (first | refine blk_drewN ?_ _ | refine blk_drew ?_ | refine blk_alloc ?_ _)); refine blk_far ?_ NB176_183.out _; (with_reducible repeat (first | refine blk_drewN ?_ _ | refine blk_drew ?_ | refine blk_alloc ?_ _)); exact BK176.out) hb); have n5_ := Aside0.mk (blk_below (g := gb183) (o := .cells #[.bool t177, .slice Ao18 t178.length co18, .string t181] 55 (0, 0)) (by (with_reducible repeat (first | refine blk_drewN ?_ _ | refine blk_drew ?_ | refine blk_alloc ?_ _)); refine blk_put (cs := #[.bool t177, .slice Ao18 t178.length co18, .string (⟨#[]⟩ : ByteArray)]) ?_ 2 _ rfl; (with_reducible repeat (first | refine blk_drewN ?_ _ | refine blk_drew ?_ | refine blk_alloc ?_ _)); refine blk_put (cs := #[.bool t177, .slice none 0 0, .string (⟨#[]⟩ : ByteArray)]) ?_ 1 _ rfl; (with_reducible repeat (first | refine blk_drewN ?_ _ | refine blk_drew ?_ | refine blk_alloc ?_ _)); refine blk_put (cs := #[.bool false, .slice none 0 0, .string (⟨#[]⟩ : ByteArray)]) ?_ 0 _ rfl; (with_reducible repeat (first | refine blk_drewN ?_ _ | refine blk_drew ?_ | refine blk_alloc ?_ _)); exact BK183.out) hb); have n6_ := Aside0.mk (below_step (by repeat (first | (with_reducible first | exact HB.out | apply below_alloc | apply pw_below_drewN | apply below_drew1 | refine below_set ?_ GE176.out | refine below_set ?_ GE183.out) | exact HB.out)) hb); clear HO169; clear HO173; clear HO180; clear BK176; clear BK183; clear HB; have HO169 := n0_; have HO173 := n1_; have HO180 := n2_; have HO187 := n3_; have BK176 := n4_; have BK183 := n5_; have HB := n6_; clear n0_ n1_ n2_ n3_ n4_ n5_ n6_; (try clear hb); (try clear hb2); (try clear hk); (try clear hi); (try clear ho0)) | ((with_reducible refine gate_callee (f := 28) rfl ?_); refine goesL_ (some 36) rfl rfl Try.func28 (by kernel_rfl) rfl #[.slice Ao9 y167.length co9, .int .i64 3] rfl (by (try simp only [List.map_toArray, List.map_cons, List.map_nil]); first | done | rfl | (simp only [List.length_drop, List.length_take]; rfl)) ?_; (with_reducible refine (loops_Depth.calls k _ _ y167 3 t188 t189 _ ?side1 ?side2 A4.out).mono ?_); (case side1 => repeat (first | exact (Kd.R_reads' HO169.out).2.2 | (with_reducible refine Kd.C_alloc ?_ _) | (with_reducible refine Kd.C_drewN ?_ _) | (with_reducible refine Kd.C_drew ?_))); (case side2 => exact (Kd.R_reads' HO169.out).2.1); rintro e w20 ⟨rfl, hb⟩; refine ⟨_, rfl, ?_⟩; have n0_ := Aside0.mk (Kd.R_below (by (with_reducible repeat (first | apply Kd.R_alloc | apply Kd.R_drewN | apply Kd.R_drew)); exact HO169.out) hb); have n1_ := Aside0.mk (Kd.R_below (by (with_reducible repeat (first | apply Kd.R_alloc | apply Kd.R_drewN | apply Kd.R_drew)); exact HO173.out) hb); have n2_ := Aside0.mk (Kd.R_below (by (with_reducible repeat (first | apply Kd.R_alloc | apply Kd.R_drewN | apply Kd.R_drew)); exact HO180.out) hb); have n3_ := Aside0.mk (Kd.R_below (by (with_reducible repeat (first | apply Kd.R_alloc | apply Kd.R_drewN | apply Kd.R_drew)); exact HO187.out) hb); have n4_ := Aside0.mk (blk_below (g := gb176) (o := .cells #[.bool t170, .slice Ao13 t171.length co13, .string t174] 55 (0, 0)) (by (with_reducible repeat (first | refine blk_drewN ?_ _ | refine blk_drew ?_ | refine blk_alloc ?_ _)); exact BK176.out) hb); have n5_ := Aside0.mk (blk_below (g := gb183) (o := .cells #[.bool t177, .slice Ao18 t178.length co18, .string t181] 55 (0, 0)) (by (with_reducible repeat (first | refine blk_drewN ?_ _ | refine blk_drew ?_ | refine blk_alloc ?_ _)); exact BK183.out) hb); have n6_ := Aside0.mk (below_step (by repeat (first | (with_reducible first | exact HB.out | apply below_alloc | apply pw_below_drewN | apply below_drew1 | refine below_set ?_ GE176.out | refine below_set ?_ GE183.out) | exact HB.out)) hb); clear HO169; clear HO173; clear HO180; clear HO187; clear BK176; clear BK183; clear HB; have HO169 := n0_; have HO173 := n1_; have HO180 := n2_; have HO187 := n3_; have BK176 := n4_; have BK183 := n5_; have HB := n6_; clear n0_ n1_ n2_ n3_ n4_ n5_ n6_; (try clear hb); (try clear hb2); (try clear hk); (try clear hi)) | ((with_reducible refine gate_callee (f := 28) rfl ?_); refine goesL_ (some 41) rfl rfl Try.func28 (by kernel_rfl) rfl #[.slice Ao9 y167.length co9, .int .i64 0] rfl (by (try simp only [List.map_toArray, List.map_cons, List.map_nil]); first | done | rfl | (simp only [List.length_drop, List.length_take]; rfl)) ?_; (with_reducible refine (loops_Depth.calls k _ _ y167 0 t190 t191 _ ?side1 ?side2 A5.out).mono ?_); (case side1 => repeat (first | exact (Kd.R_reads' HO169.out).2.2 | (with_reducible refine Kd.C_alloc ?_ _) | (with_reducible refine Kd.C_drewN ?_ _) | (with_reducible refine Kd.C_drew ?_))); (case side2 => exact (Kd.R_reads' HO169.out).2.1); rintro e w21 ⟨rfl, hb⟩; refine ⟨_, rfl, ?_⟩; have n0_ := Aside0.mk (Kd.R_below (by (with_reducible repeat (first | apply Kd.R_alloc | apply Kd.R_drewN | apply Kd.R_drew)); exact HO169.out) hb); have n1_ := Aside0.mk (Kd.R_below (by (with_reducible repeat (first | apply Kd.R_alloc | apply Kd.R_drewN | apply Kd.R_drew)); exact HO173.out) hb); have n2_ := Aside0.mk (Kd.R_below (by (with_reducible repeat (first | apply Kd.R_alloc | apply Kd.R_drewN | apply Kd.R_drew)); exact HO180.out) hb); have n3_ := Aside0.mk (Kd.R_below (by (with_reducible repeat (first | apply Kd.R_alloc | apply Kd.R_drewN | apply Kd.R_drew)); exact HO187.out) hb); have n4_ := Aside0.mk (blk_below (g := gb176) (o := .cells #[.bool t170, .slice Ao13 t171.length co13, .string t174] 55 (0, 0)) (by (with_reducible repeat (first | refine blk_drewN ?_ _ | refine blk_drew ?_ | refine blk_alloc ?_ _)); exact BK176.out) hb); have n5_ := Aside0.mk (blk_below (g := gb183) (o := .cells #[.bool t177, .slice Ao18 t178.length co18, .string t181] 55 (0, 0)) (by (with_reducible repeat (first | refine blk_drewN ?_ _ | refine blk_drew ?_ | refine blk_alloc ?_ _)); exact BK183.out) hb); have n6_ := Aside0.mk (below_step (by repeat (first | (with_reducible first | exact HB.out | apply below_alloc | apply pw_below_drewN | apply below_drew1 | refine below_set ?_ GE176.out | refine below_set ?_ GE183.out) | exact HB.out)) hb); clear HO169; clear HO173; clear HO180; clear HO187; clear BK176; clear BK183; clear HB; have HO169 := n0_; have HO173 := n1_; have HO180 := n2_; have HO187 := n3_; have BK176 := n4_; have BK183 := n5_; have HB := n6_; clear n0_ n1_ n2_ n3_ n4_ n5_ n6_; (try clear hb); (try clear hb2); (try clear hk); (try clear hi)))
 (try simp only [Act.put, List.setIfInBounds_toArray, List.set_cons_zero, List.set_cons_succ])
 go_cut [87] (fun v87 wc => ∃ (kq : Nat) (x87_5 : Bool), v87 = .bool x87_5 ∧ Aside0 (tickinglaw06_awake.j0 kq x87_5 = some r) ∧ Aside0 (kq ≤ k) ∧ Aside0 (Kd.R k23 23 wc w.heap.size (fun k_ => some k_ ≠ ((.slice Ao18 t178.length co18) : Value).ownBlock) (.slice Ao13 t171.length co13) t171) ∧ Aside0 (Kd.R k23 23 wc w.heap.size (fun k_ => some k_ ≠ ((.slice Ao13 t171.length co13) : Value).ownBlock) (.slice Ao18 t178.length co18) t178) ∧ Aside0 (wc.heap[gb176]? = some (.cells #[.bool t170, (.slice Ao13 t171.length co13), .string t174] 55 (0, 0))) ∧ Aside0 (wc.heap[gb183]? = some (.cells #[.bool t177, (.slice Ao18 t178.length co18), .string t181] 55 (0, 0))) ∧ Aside0 (Below w.heap.size w wc))
 case first =>
  have H := HC6.out
  clear HC6
  by_cases c22 : t175 = 0
  rotate_left
  ·rw [if_neg c22] at H
   have c22b0 : (t175 == 0) = false := beq_eq_false_iff_ne.mpr c22
   have c22b1 : (t175 != 0) = true := bne_iff_ne.mpr c22
   (first | rw [c22b0] | (simp only [i64_w, i32_w]; rw [c22b0]) | skip)
   have H' := Aside0.mk H
   clear H
   go_wp2
   go_meet
   exact ⟨_, (true), (by first | rfl | (simp; done) | (simp [*]; done)), H', ⟨by first | omega | exact Nat.le_refl _⟩, ⟨by (with_reducible repeat (first | apply Kd.R_alloc | apply Kd.R_drewN | apply Kd.R_drew)); exact Kd.R_mono HO173.out (fun _ hk => hk.2)⟩, ⟨by (with_reducible repeat (first | apply Kd.R_alloc | apply Kd.R_drewN | apply Kd.R_drew)); exact Kd.R_mono HO180.out (fun _ hk => hk.2)⟩, ⟨by (with_reducible repeat (first | refine blk_drewN ?_ _ | refine blk_drew ?_ | refine blk_alloc ?_ _)); exact BK176.out⟩, ⟨by (with_reducible repeat (first | refine blk_drewN ?_ _ | refine blk_drew ?_ | refine blk_alloc ?_ _)); exact BK183.out⟩, ⟨by repeat (first | (with_reducible first | exact HB.out | apply below_alloc | apply pw_below_drewN | apply below_drew1 | refine below_set ?_ GE176.out | refine below_set ?_ GE183.out) | exact HB.out)⟩⟩
  rw [if_pos c22] at H
  have c22b0 : (t175 == 0) = true := beq_iff_eq.mpr c22
  have c22b1 : (t175 != 0) = false := bne_eq_false_iff_eq.mpr c22
  clear c22
  (first | rw [c22b0] | (simp only [i64_w, i32_w]; rw [c22b0]) | skip)
  by_cases c23 : t170 = true
  ·subst c23
   have H1 : (tickinglaw06_awake.j0 k true) = some r := by rw [if_pos rfl] at H; exact H
   clear H
   have H := H1
   clear H1
   have H' := Aside0.mk H
   clear H
   have hnb24 := NB176_183.out
   have hnc24 := NB183_176.out
   have hcz25_0 : w21.cell? ⟨gb176, 0, none⟩ = some (.bool true) := (blk_cell BK176.out 0).trans rfl
   have hcz25_1 : w21.cell? ⟨gb176, 1, none⟩ = some (.slice Ao13 t171.length co13) := (blk_cell BK176.out 1).trans rfl
   have hcz25_2 : w21.cell? ⟨gb176, 2, none⟩ = some (.string t174) := (blk_cell BK176.out 2).trans rfl
   have hfz25_0 := blk_frozen BK176.out 0
   have hfz25_1 := blk_frozen BK176.out 1
   have hfz25_2 := blk_frozen BK176.out 2
   go_wp2
   go_meet
   exact ⟨_, (true), (by first | rfl | (simp; done) | (simp [*]; done)), H', ⟨by first | omega | exact Nat.le_refl _⟩, ⟨by (with_reducible repeat (first | apply Kd.R_alloc | apply Kd.R_drewN | apply Kd.R_drew)); exact Kd.R_mono HO173.out (fun _ hk => hk.2)⟩, ⟨by (with_reducible repeat (first | apply Kd.R_alloc | apply Kd.R_drewN | apply Kd.R_drew)); exact Kd.R_mono HO180.out (fun _ hk => hk.2)⟩, ⟨by (with_reducible repeat (first | refine blk_drewN ?_ _ | refine blk_drew ?_ | refine blk_alloc ?_ _)); exact BK176.out⟩, ⟨by (with_reducible repeat (first | refine blk_drewN ?_ _ | refine blk_drew ?_ | refine blk_alloc ?_ _)); exact BK183.out⟩, ⟨by repeat (first | (with_reducible first | exact HB.out | apply below_alloc | apply pw_below_drewN | apply below_drew1 | refine below_set ?_ GE176.out | refine below_set ?_ GE183.out) | exact HB.out)⟩⟩
  replace c23 := Bool.eq_false_iff.mpr c23
  subst c23
  have H1 : (if t174.toList = ([] : List UInt8) then (if t182 = 0 then (if t177 = true then (if t185 = 0 then ((tickinglaw06_types.f k t184 (([(⟨4, 1, 0⟩ : S39), (⟨2, 0, 0⟩ : S39)] : List (S39)))).bind fun t195 => (if t195 = true then (if t189 = 0 then (if t188 = 1 then (tickinglaw06_awake.j0 k (t191 != 6)) else (tickinglaw06_awake.j0 k true)) else (tickinglaw06_awake.j0 k true)) else (tickinglaw06_awake.j0 k true))) else (tickinglaw06_awake.j0 k true)) else (tickinglaw06_awake.j0 k true)) else (tickinglaw06_awake.j0 k true)) else (tickinglaw06_awake.j0 k true)) = some r := by rw [if_neg (show ¬ (false = true) by decide)] at H; exact H
  clear H
  have H := H1
  clear H1
  by_cases c26 : t174.toList = ([] : List UInt8)
  rotate_left
  ·rw [if_neg c26] at H
   have c26b0 : (t174.toList == ([] : List UInt8)) = false := beq_eq_false_iff_ne.mpr c26
   have c26b1 : (t174.toList != ([] : List UInt8)) = true := bne_iff_ne.mpr c26
   have H' := Aside0.mk H
   clear H
   have hnb70 := NB176_183.out
   have hnc70 := NB183_176.out
   have hcz71_0 : w21.cell? ⟨gb176, 0, none⟩ = some (.bool false) := (blk_cell BK176.out 0).trans rfl
   have hcz71_1 : w21.cell? ⟨gb176, 1, none⟩ = some (.slice Ao13 t171.length co13) := (blk_cell BK176.out 1).trans rfl
   have hcz71_2 : w21.cell? ⟨gb176, 2, none⟩ = some (.string t174) := (blk_cell BK176.out 2).trans rfl
   have hfz71_0 := blk_frozen BK176.out 0
   have hfz71_1 := blk_frozen BK176.out 1
   have hfz71_2 := blk_frozen BK176.out 2
   go_wp2
   go_meet
   exact ⟨_, (true), (by first | rfl | (simp; done) | (simp [*]; done)), H', ⟨by first | omega | exact Nat.le_refl _⟩, ⟨by (with_reducible repeat (first | apply Kd.R_alloc | apply Kd.R_drewN | apply Kd.R_drew)); exact Kd.R_mono HO173.out (fun _ hk => hk.2)⟩, ⟨by (with_reducible repeat (first | apply Kd.R_alloc | apply Kd.R_drewN | apply Kd.R_drew)); exact Kd.R_mono HO180.out (fun _ hk => hk.2)⟩, ⟨by (with_reducible repeat (first | refine blk_drewN ?_ _ | refine blk_drew ?_ | refine blk_alloc ?_ _)); exact BK176.out⟩, ⟨by (with_reducible repeat (first | refine blk_drewN ?_ _ | refine blk_drew ?_ | refine blk_alloc ?_ _)); exact BK183.out⟩, ⟨by repeat (first | (with_reducible first | exact HB.out | apply below_alloc | apply pw_below_drewN | apply below_drew1 | refine below_set ?_ GE176.out | refine below_set ?_ GE183.out) | exact HB.out)⟩⟩
  rw [if_pos c26] at H
  have c26b0 : (t174.toList == ([] : List UInt8)) = true := beq_iff_eq.mpr c26
  have c26b1 : (t174.toList != ([] : List UInt8)) = false := bne_eq_false_iff_eq.mpr c26
  clear c26
  by_cases c27 : t182 = 0
  rotate_left
  ·rw [if_neg c27] at H
   have c27b0 : (t182 == 0) = false := beq_eq_false_iff_ne.mpr c27
   have c27b1 : (t182 != 0) = true := bne_iff_ne.mpr c27
   have H' := Aside0.mk H
   clear H
   have hnb68 := NB176_183.out
   have hnc68 := NB183_176.out
   have hcz69_0 : w21.cell? ⟨gb176, 0, none⟩ = some (.bool false) := (blk_cell BK176.out 0).trans rfl
   have hcz69_1 : w21.cell? ⟨gb176, 1, none⟩ = some (.slice Ao13 t171.length co13) := (blk_cell BK176.out 1).trans rfl
   have hcz69_2 : w21.cell? ⟨gb176, 2, none⟩ = some (.string t174) := (blk_cell BK176.out 2).trans rfl
   have hfz69_0 := blk_frozen BK176.out 0
   have hfz69_1 := blk_frozen BK176.out 1
   have hfz69_2 := blk_frozen BK176.out 2
   go_wp2
   go_meet
   exact ⟨_, (true), (by first | rfl | (simp; done) | (simp [*]; done)), H', ⟨by first | omega | exact Nat.le_refl _⟩, ⟨by (with_reducible repeat (first | apply Kd.R_alloc | apply Kd.R_drewN | apply Kd.R_drew)); exact Kd.R_mono HO173.out (fun _ hk => hk.2)⟩, ⟨by (with_reducible repeat (first | apply Kd.R_alloc | apply Kd.R_drewN | apply Kd.R_drew)); exact Kd.R_mono HO180.out (fun _ hk => hk.2)⟩, ⟨by (with_reducible repeat (first | refine blk_drewN ?_ _ | refine blk_drew ?_ | refine blk_alloc ?_ _)); exact BK176.out⟩, ⟨by (with_reducible repeat (first | refine blk_drewN ?_ _ | refine blk_drew ?_ | refine blk_alloc ?_ _)); exact BK183.out⟩, ⟨by repeat (first | (with_reducible first | exact HB.out | apply below_alloc | apply pw_below_drewN | apply below_drew1 | refine below_set ?_ GE176.out | refine below_set ?_ GE183.out) | exact HB.out)⟩⟩
  rw [if_pos c27] at H
  have c27b0 : (t182 == 0) = true := beq_iff_eq.mpr c27
  have c27b1 : (t182 != 0) = false := bne_eq_false_iff_eq.mpr c27
  clear c27
  by_cases c28 : t177 = true
  rotate_left
  ·replace c28 := Bool.eq_false_iff.mpr c28
   subst c28
   have H1 : (tickinglaw06_awake.j0 k true) = some r := by rw [if_neg (show ¬ (false = true) by decide)] at H; exact H
   clear H
   have H := H1
   clear H1
   have H' := Aside0.mk H
   clear H
   have hnb65 := NB176_183.out
   have hnc65 := NB183_176.out
   have hcz66_0 : w21.cell? ⟨gb176, 0, none⟩ = some (.bool false) := (blk_cell BK176.out 0).trans rfl
   have hcz66_1 : w21.cell? ⟨gb176, 1, none⟩ = some (.slice Ao13 t171.length co13) := (blk_cell BK176.out 1).trans rfl
   have hcz66_2 : w21.cell? ⟨gb176, 2, none⟩ = some (.string t174) := (blk_cell BK176.out 2).trans rfl
   have hfz66_0 := blk_frozen BK176.out 0
   have hfz66_1 := blk_frozen BK176.out 1
   have hfz66_2 := blk_frozen BK176.out 2
   have hcz67_0 : w21.cell? ⟨gb183, 0, none⟩ = some (.bool false) := (blk_cell BK183.out 0).trans rfl
   have hcz67_1 : w21.cell? ⟨gb183, 1, none⟩ = some (.slice Ao18 t178.length co18) := (blk_cell BK183.out 1).trans rfl
   have hcz67_2 : w21.cell? ⟨gb183, 2, none⟩ = some (.string t181) := (blk_cell BK183.out 2).trans rfl
   have hfz67_0 := blk_frozen BK183.out 0
   have hfz67_1 := blk_frozen BK183.out 1
   have hfz67_2 := blk_frozen BK183.out 2
   go_wp2
   go_meet
   exact ⟨_, (true), (by first | rfl | (simp; done) | (simp [*]; done)), H', ⟨by first | omega | exact Nat.le_refl _⟩, ⟨by (with_reducible repeat (first | apply Kd.R_alloc | apply Kd.R_drewN | apply Kd.R_drew)); exact Kd.R_mono HO173.out (fun _ hk => hk.2)⟩, ⟨by (with_reducible repeat (first | apply Kd.R_alloc | apply Kd.R_drewN | apply Kd.R_drew)); exact Kd.R_mono HO180.out (fun _ hk => hk.2)⟩, ⟨by (with_reducible repeat (first | refine blk_drewN ?_ _ | refine blk_drew ?_ | refine blk_alloc ?_ _)); exact BK176.out⟩, ⟨by (with_reducible repeat (first | refine blk_drewN ?_ _ | refine blk_drew ?_ | refine blk_alloc ?_ _)); exact BK183.out⟩, ⟨by repeat (first | (with_reducible first | exact HB.out | apply below_alloc | apply pw_below_drewN | apply below_drew1 | refine below_set ?_ GE176.out | refine below_set ?_ GE183.out) | exact HB.out)⟩⟩
  subst c28
  have H1 : (if t185 = 0 then ((tickinglaw06_types.f k t184 (([(⟨4, 1, 0⟩ : S39), (⟨2, 0, 0⟩ : S39)] : List (S39)))).bind fun t195 => (if t195 = true then (if t189 = 0 then (if t188 = 1 then (tickinglaw06_awake.j0 k (t191 != 6)) else (tickinglaw06_awake.j0 k true)) else (tickinglaw06_awake.j0 k true)) else (tickinglaw06_awake.j0 k true))) else (tickinglaw06_awake.j0 k true)) = some r := by rw [if_pos rfl] at H; exact H
  clear H
  have H := H1
  clear H1
  by_cases c29 : t185 = 0
  rotate_left
  ·rw [if_neg c29] at H
   have c29b0 : (t185 == 0) = false := beq_eq_false_iff_ne.mpr c29
   have c29b1 : (t185 != 0) = true := bne_iff_ne.mpr c29
   have H' := Aside0.mk H
   clear H
   have hnb62 := NB176_183.out
   have hnc62 := NB183_176.out
   have hcz63_0 : w21.cell? ⟨gb176, 0, none⟩ = some (.bool false) := (blk_cell BK176.out 0).trans rfl
   have hcz63_1 : w21.cell? ⟨gb176, 1, none⟩ = some (.slice Ao13 t171.length co13) := (blk_cell BK176.out 1).trans rfl
   have hcz63_2 : w21.cell? ⟨gb176, 2, none⟩ = some (.string t174) := (blk_cell BK176.out 2).trans rfl
   have hfz63_0 := blk_frozen BK176.out 0
   have hfz63_1 := blk_frozen BK176.out 1
   have hfz63_2 := blk_frozen BK176.out 2
   have hcz64_0 : w21.cell? ⟨gb183, 0, none⟩ = some (.bool true) := (blk_cell BK183.out 0).trans rfl
   have hcz64_1 : w21.cell? ⟨gb183, 1, none⟩ = some (.slice Ao18 t178.length co18) := (blk_cell BK183.out 1).trans rfl
   have hcz64_2 : w21.cell? ⟨gb183, 2, none⟩ = some (.string t181) := (blk_cell BK183.out 2).trans rfl
   have hfz64_0 := blk_frozen BK183.out 0
   have hfz64_1 := blk_frozen BK183.out 1
   have hfz64_2 := blk_frozen BK183.out 2
   go_wp2
   go_meet
   exact ⟨_, (true), (by first | rfl | (simp; done) | (simp [*]; done)), H', ⟨by first | omega | exact Nat.le_refl _⟩, ⟨by (with_reducible repeat (first | apply Kd.R_alloc | apply Kd.R_drewN | apply Kd.R_drew)); exact Kd.R_mono HO173.out (fun _ hk => hk.2)⟩, ⟨by (with_reducible repeat (first | apply Kd.R_alloc | apply Kd.R_drewN | apply Kd.R_drew)); exact Kd.R_mono HO180.out (fun _ hk => hk.2)⟩, ⟨by (with_reducible repeat (first | refine blk_drewN ?_ _ | refine blk_drew ?_ | refine blk_alloc ?_ _)); exact BK176.out⟩, ⟨by (with_reducible repeat (first | refine blk_drewN ?_ _ | refine blk_drew ?_ | refine blk_alloc ?_ _)); exact BK183.out⟩, ⟨by repeat (first | (with_reducible first | exact HB.out | apply below_alloc | apply pw_below_drewN | apply below_drew1 | refine below_set ?_ GE176.out | refine below_set ?_ GE183.out) | exact HB.out)⟩⟩
  rw [if_pos c29] at H
  have c29b0 : (t185 == 0) = true := beq_iff_eq.mpr c29
  have c29b1 : (t185 != 0) = false := bne_eq_false_iff_eq.mpr c29
  clear c29
  obtain ⟨y192, hy192⟩ : ∃ y_ : List (S39), y_ = (([(⟨4, 1, 0⟩ : S39), (⟨2, 0, 0⟩ : S39)] : List (S39))) := ⟨_, rfl⟩
  replace H : ((tickinglaw06_types.f k t184 y192).bind fun t195 => (if t195 = true then (if t189 = 0 then (if t188 = 1 then (tickinglaw06_awake.j0 k (t191 != 6)) else (tickinglaw06_awake.j0 k true)) else (tickinglaw06_awake.j0 k true)) else (tickinglaw06_awake.j0 k true))) = some r := by first | (rw [hy192]; with_reducible exact H) | (have H2_ := (Option.bind_some _ _).symm.trans H; rw [hy192]; with_reducible exact H2_) | (have H2_ := (Option.bind_some _ _).symm.trans H; with_reducible exact H2_) | with_reducible exact H | (rw [hy192]; exact H) | exact H
  have Ny192 := Aside0.mk hy192
  clear hy192
  replace H := Option.bind_eq_some_iff.mp H
  obtain ⟨t195, A300, H⟩ := H
  replace H : (if t195 = true then (if t189 = 0 then (if t188 = 1 then (tickinglaw06_awake.j0 k (t191 != 6)) else (tickinglaw06_awake.j0 k true)) else (tickinglaw06_awake.j0 k true)) else (tickinglaw06_awake.j0 k true)) = some r := H
  have A30 := Aside0.mk A300
  clear A300
  by_cases c31 : t195 = true
  rotate_left
  ·replace c31 := Bool.eq_false_iff.mpr c31
   subst c31
   have H1 : (tickinglaw06_awake.j0 k true) = some r := by rw [if_neg (show ¬ (false = true) by decide)] at H; exact H
   clear H
   have H := H1
   clear H1
   have H' := Aside0.mk H
   clear H
   have hnb55 := NB176_183.out
   have hnc55 := NB183_176.out
   have hcz56_0 : w21.cell? ⟨gb176, 0, none⟩ = some (.bool false) := (blk_cell BK176.out 0).trans rfl
   have hcz56_1 : w21.cell? ⟨gb176, 1, none⟩ = some (.slice Ao13 t171.length co13) := (blk_cell BK176.out 1).trans rfl
   have hcz56_2 : w21.cell? ⟨gb176, 2, none⟩ = some (.string t174) := (blk_cell BK176.out 2).trans rfl
   have hfz56_0 := blk_frozen BK176.out 0
   have hfz56_1 := blk_frozen BK176.out 1
   have hfz56_2 := blk_frozen BK176.out 2
   have hcz57_0 : w21.cell? ⟨gb183, 0, none⟩ = some (.bool true) := (blk_cell BK183.out 0).trans rfl
   have hcz57_1 : w21.cell? ⟨gb183, 1, none⟩ = some (.slice Ao18 t178.length co18) := (blk_cell BK183.out 1).trans rfl
   have hcz57_2 : w21.cell? ⟨gb183, 2, none⟩ = some (.string t181) := (blk_cell BK183.out 2).trans rfl
   have hfz57_0 := blk_frozen BK183.out 0
   have hfz57_1 := blk_frozen BK183.out 1
   have hfz57_2 := blk_frozen BK183.out 2
   go_wp2_with (first | ((with_reducible refine gate_dst (N := 72) rfl ?_); (try (refine gate_guard (by rfl) ?_; dsimp only)); refine Kd.R_lit k39 _ 39 ?hg (N := 72) ?hd (xs := ([(⟨4, 1, 0⟩ : S39), (⟨2, 0, 0⟩ : S39)] : List (S39))) (inner := [.int .i64 4, .int .i64 1, .int .i64 0, .int .i64 2, .int .i64 0, .int .i64 0]) (ok := fun _ => True) (okp := fun _ => True) ?hr ?hp (fun _ hk => hk) trivial (Below.refl _ _) (Nat.le_refl _) (by simp) ?_; (case hd => rfl); (case hg => rfl); (case hr => first | (go_simp; done) | (go_simp; rfl)); (case hp => exact (Reps.c3 (show Kd.M k39 _ _ _ (⟨4, 1, 0⟩ : S39) [.int .i64 4, .int .i64 1, .int .i64 0] from (k39_mkM _ _ _ (⟨4, 1, 0⟩ : S39) )) (Reps.c3 (show Kd.M k39 _ _ _ (⟨2, 0, 0⟩ : S39) [.int .i64 2, .int .i64 0, .int .i64 0] from (k39_mkM _ _ _ (⟨2, 0, 0⟩ : S39) )) (Reps.none _ _)))); intro v193 w58 ho59 hb hg_ hnew_; clear hg_ hnew_; (first | rw [← Ny192.out] at ho59 | (simp only [Int.reduceToNat] at ho59; rw [← Ny192.out] at ho59)); have n0_ := Aside0.mk (Kd.R_elder' (by (with_reducible repeat (first | apply Kd.R_alloc | apply Kd.R_drewN | apply Kd.R_drew)); exact HO169.out) (Kd.R_base ho59) hb); have n1_ := Aside0.mk (Kd.R_below (by (with_reducible repeat (first | apply Kd.R_alloc | apply Kd.R_drewN | apply Kd.R_drew)); exact HO173.out) hb); have n2_ := Aside0.mk (Kd.R_below (by (with_reducible repeat (first | apply Kd.R_alloc | apply Kd.R_drewN | apply Kd.R_drew)); exact HO180.out) hb); have n3_ := Aside0.mk (Kd.R_elder' (by (with_reducible repeat (first | apply Kd.R_alloc | apply Kd.R_drewN | apply Kd.R_drew)); exact HO187.out) (Kd.R_base ho59) hb); have n4_ := Aside0.mk (Kd.R_lower (Kd.R_new' (Kd.R_new' ho59 (Kd.R_lt (by (with_reducible repeat (first | apply Kd.R_alloc | apply Kd.R_drewN | apply Kd.R_drew)); exact HO169.out))) (Kd.R_lt (by (with_reducible repeat (first | apply Kd.R_alloc | apply Kd.R_drewN | apply Kd.R_drew)); exact HO187.out))) (below_size (by repeat (first | (with_reducible first | exact HB.out | apply below_alloc | apply pw_below_drewN | apply below_drew1 | refine below_set ?_ GE176.out | refine below_set ?_ GE183.out) | exact HB.out)))); have n5_ := Aside0.mk (blk_below (g := gb176) (o := .cells #[.bool false, .slice Ao13 t171.length co13, .string t174] 55 (0, 0)) (by (with_reducible repeat (first | refine blk_drewN ?_ _ | refine blk_drew ?_ | refine blk_alloc ?_ _)); exact BK176.out) hb); have n6_ := Aside0.mk (blk_below (g := gb183) (o := .cells #[.bool true, .slice Ao18 t178.length co18, .string t181] 55 (0, 0)) (by (with_reducible repeat (first | refine blk_drewN ?_ _ | refine blk_drew ?_ | refine blk_alloc ?_ _)); exact BK183.out) hb); have n7_ := Aside0.mk (below_step (by repeat (first | (with_reducible first | exact HB.out | apply below_alloc | apply pw_below_drewN | apply below_drew1 | refine below_set ?_ GE176.out | refine below_set ?_ GE183.out) | exact HB.out)) hb); clear HO169; clear HO173; clear HO180; clear HO187; clear BK176; clear BK183; clear HB; have HO169 := n0_; have HO173 := n1_; have HO180 := n2_; have HO187 := n3_; have HO194 := n4_; have BK176 := n5_; have BK183 := n6_; have HB := n7_; clear n0_ n1_ n2_ n3_ n4_ n5_ n6_ n7_; clear hb ho59; obtain ⟨Ao60, co60, eo60⟩ := Kd.R_slice HO187.out; subst eo60; obtain ⟨Ao61, co61, eo61⟩ := Kd.R_slice HO194.out; subst eo61) | (go_at_call 20; (with_reducible refine (tickinglaw06_types.calls k _ _ t184 _ _ y192 false _ ?side1 ?side2 ?side3 ?side4 A30.out).mono ?_); (case side1 => repeat (first | exact (Kd.R_reads' HO187.out).2.2 | (with_reducible refine Kd.C_alloc ?_ _) | (with_reducible refine Kd.C_drewN ?_ _) | (with_reducible refine Kd.C_drew ?_))); (case side2 => exact (Kd.R_reads' HO187.out).2.1); (case side3 => repeat (first | exact (Kd.R_reads' HO194.out).2.2 | (with_reducible refine Kd.C_alloc ?_ _) | (with_reducible refine Kd.C_drewN ?_ _) | (with_reducible refine Kd.C_drew ?_))); (case side4 => exact (Kd.R_reads' HO194.out).2.1); rintro e w' ⟨rfl, ⟨nd, rfl⟩⟩))
   go_meet
   exact ⟨_, (true), (by first | rfl | (simp; done) | (simp [*]; done)), H', ⟨by first | omega | exact Nat.le_refl _⟩, ⟨by (with_reducible repeat (first | apply Kd.R_alloc | apply Kd.R_drewN | apply Kd.R_drew)); exact Kd.R_mono HO173.out (fun _ hk => hk.2)⟩, ⟨by (with_reducible repeat (first | apply Kd.R_alloc | apply Kd.R_drewN | apply Kd.R_drew)); exact Kd.R_mono HO180.out (fun _ hk => hk.2)⟩, ⟨by (with_reducible repeat (first | refine blk_drewN ?_ _ | refine blk_drew ?_ | refine blk_alloc ?_ _)); exact BK176.out⟩, ⟨by (with_reducible repeat (first | refine blk_drewN ?_ _ | refine blk_drew ?_ | refine blk_alloc ?_ _)); exact BK183.out⟩, ⟨by repeat (first | (with_reducible first | exact HB.out | apply below_alloc | apply pw_below_drewN | apply below_drew1 | refine below_set ?_ GE176.out | refine below_set ?_ GE183.out) | exact HB.out)⟩⟩
  subst c31
  have H1 : (if t189 = 0 then (if t188 = 1 then (tickinglaw06_awake.j0 k (t191 != 6)) else (tickinglaw06_awake.j0 k true)) else (tickinglaw06_awake.j0 k true)) = some r := by rw [if_pos rfl] at H; exact H
  clear H
  have H := H1
  clear H1
  by_cases c32 : t189 = 0
  rotate_left
  ·rw [if_neg c32] at H
   have c32b0 : (t189 == 0) = false := beq_eq_false_iff_ne.mpr c32
   have c32b1 : (t189 != 0) = true := bne_iff_ne.mpr c32
   have H' := Aside0.mk H
   clear H
   have hnb48 := NB176_183.out
   have hnc48 := NB183_176.out
   have hcz49_0 : w21.cell? ⟨gb176, 0, none⟩ = some (.bool false) := (blk_cell BK176.out 0).trans rfl
   have hcz49_1 : w21.cell? ⟨gb176, 1, none⟩ = some (.slice Ao13 t171.length co13) := (blk_cell BK176.out 1).trans rfl
   have hcz49_2 : w21.cell? ⟨gb176, 2, none⟩ = some (.string t174) := (blk_cell BK176.out 2).trans rfl
   have hfz49_0 := blk_frozen BK176.out 0
   have hfz49_1 := blk_frozen BK176.out 1
   have hfz49_2 := blk_frozen BK176.out 2
   have hcz50_0 : w21.cell? ⟨gb183, 0, none⟩ = some (.bool true) := (blk_cell BK183.out 0).trans rfl
   have hcz50_1 : w21.cell? ⟨gb183, 1, none⟩ = some (.slice Ao18 t178.length co18) := (blk_cell BK183.out 1).trans rfl
   have hcz50_2 : w21.cell? ⟨gb183, 2, none⟩ = some (.string t181) := (blk_cell BK183.out 2).trans rfl
   have hfz50_0 := blk_frozen BK183.out 0
   have hfz50_1 := blk_frozen BK183.out 1
   have hfz50_2 := blk_frozen BK183.out 2
   go_wp2_with (first | ((with_reducible refine gate_dst (N := 72) rfl ?_); (try (refine gate_guard (by rfl) ?_; dsimp only)); refine Kd.R_lit k39 _ 39 ?hg (N := 72) ?hd (xs := ([(⟨4, 1, 0⟩ : S39), (⟨2, 0, 0⟩ : S39)] : List (S39))) (inner := [.int .i64 4, .int .i64 1, .int .i64 0, .int .i64 2, .int .i64 0, .int .i64 0]) (ok := fun _ => True) (okp := fun _ => True) ?hr ?hp (fun _ hk => hk) trivial (Below.refl _ _) (Nat.le_refl _) (by simp) ?_; (case hd => rfl); (case hg => rfl); (case hr => first | (go_simp; done) | (go_simp; rfl)); (case hp => exact (Reps.c3 (show Kd.M k39 _ _ _ (⟨4, 1, 0⟩ : S39) [.int .i64 4, .int .i64 1, .int .i64 0] from (k39_mkM _ _ _ (⟨4, 1, 0⟩ : S39) )) (Reps.c3 (show Kd.M k39 _ _ _ (⟨2, 0, 0⟩ : S39) [.int .i64 2, .int .i64 0, .int .i64 0] from (k39_mkM _ _ _ (⟨2, 0, 0⟩ : S39) )) (Reps.none _ _)))); intro v193 w51 ho52 hb hg_ hnew_; clear hg_ hnew_; (first | rw [← Ny192.out] at ho52 | (simp only [Int.reduceToNat] at ho52; rw [← Ny192.out] at ho52)); have n0_ := Aside0.mk (Kd.R_elder' (by (with_reducible repeat (first | apply Kd.R_alloc | apply Kd.R_drewN | apply Kd.R_drew)); exact HO169.out) (Kd.R_base ho52) hb); have n1_ := Aside0.mk (Kd.R_below (by (with_reducible repeat (first | apply Kd.R_alloc | apply Kd.R_drewN | apply Kd.R_drew)); exact HO173.out) hb); have n2_ := Aside0.mk (Kd.R_below (by (with_reducible repeat (first | apply Kd.R_alloc | apply Kd.R_drewN | apply Kd.R_drew)); exact HO180.out) hb); have n3_ := Aside0.mk (Kd.R_elder' (by (with_reducible repeat (first | apply Kd.R_alloc | apply Kd.R_drewN | apply Kd.R_drew)); exact HO187.out) (Kd.R_base ho52) hb); have n4_ := Aside0.mk (Kd.R_lower (Kd.R_new' (Kd.R_new' ho52 (Kd.R_lt (by (with_reducible repeat (first | apply Kd.R_alloc | apply Kd.R_drewN | apply Kd.R_drew)); exact HO169.out))) (Kd.R_lt (by (with_reducible repeat (first | apply Kd.R_alloc | apply Kd.R_drewN | apply Kd.R_drew)); exact HO187.out))) (below_size (by repeat (first | (with_reducible first | exact HB.out | apply below_alloc | apply pw_below_drewN | apply below_drew1 | refine below_set ?_ GE176.out | refine below_set ?_ GE183.out) | exact HB.out)))); have n5_ := Aside0.mk (blk_below (g := gb176) (o := .cells #[.bool false, .slice Ao13 t171.length co13, .string t174] 55 (0, 0)) (by (with_reducible repeat (first | refine blk_drewN ?_ _ | refine blk_drew ?_ | refine blk_alloc ?_ _)); exact BK176.out) hb); have n6_ := Aside0.mk (blk_below (g := gb183) (o := .cells #[.bool true, .slice Ao18 t178.length co18, .string t181] 55 (0, 0)) (by (with_reducible repeat (first | refine blk_drewN ?_ _ | refine blk_drew ?_ | refine blk_alloc ?_ _)); exact BK183.out) hb); have n7_ := Aside0.mk (below_step (by repeat (first | (with_reducible first | exact HB.out | apply below_alloc | apply pw_below_drewN | apply below_drew1 | refine below_set ?_ GE176.out | refine below_set ?_ GE183.out) | exact HB.out)) hb); clear HO169; clear HO173; clear HO180; clear HO187; clear BK176; clear BK183; clear HB; have HO169 := n0_; have HO173 := n1_; have HO180 := n2_; have HO187 := n3_; have HO194 := n4_; have BK176 := n5_; have BK183 := n6_; have HB := n7_; clear n0_ n1_ n2_ n3_ n4_ n5_ n6_ n7_; clear hb ho52; obtain ⟨Ao53, co53, eo53⟩ := Kd.R_slice HO187.out; subst eo53; obtain ⟨Ao54, co54, eo54⟩ := Kd.R_slice HO194.out; subst eo54) | (go_at_call 20; (with_reducible refine (tickinglaw06_types.calls k _ _ t184 _ _ y192 true _ ?side1 ?side2 ?side3 ?side4 A30.out).mono ?_); (case side1 => repeat (first | exact (Kd.R_reads' HO187.out).2.2 | (with_reducible refine Kd.C_alloc ?_ _) | (with_reducible refine Kd.C_drewN ?_ _) | (with_reducible refine Kd.C_drew ?_))); (case side2 => exact (Kd.R_reads' HO187.out).2.1); (case side3 => repeat (first | exact (Kd.R_reads' HO194.out).2.2 | (with_reducible refine Kd.C_alloc ?_ _) | (with_reducible refine Kd.C_drewN ?_ _) | (with_reducible refine Kd.C_drew ?_))); (case side4 => exact (Kd.R_reads' HO194.out).2.1); rintro e w' ⟨rfl, ⟨nd, rfl⟩⟩))
   go_meet
   exact ⟨_, (true), (by first | rfl | (simp; done) | (simp [*]; done)), H', ⟨by first | omega | exact Nat.le_refl _⟩, ⟨by (with_reducible repeat (first | apply Kd.R_alloc | apply Kd.R_drewN | apply Kd.R_drew)); exact Kd.R_mono HO173.out (fun _ hk => hk.2)⟩, ⟨by (with_reducible repeat (first | apply Kd.R_alloc | apply Kd.R_drewN | apply Kd.R_drew)); exact Kd.R_mono HO180.out (fun _ hk => hk.2)⟩, ⟨by (with_reducible repeat (first | refine blk_drewN ?_ _ | refine blk_drew ?_ | refine blk_alloc ?_ _)); exact BK176.out⟩, ⟨by (with_reducible repeat (first | refine blk_drewN ?_ _ | refine blk_drew ?_ | refine blk_alloc ?_ _)); exact BK183.out⟩, ⟨by repeat (first | (with_reducible first | exact HB.out | apply below_alloc | apply pw_below_drewN | apply below_drew1 | refine below_set ?_ GE176.out | refine below_set ?_ GE183.out) | exact HB.out)⟩⟩
  rw [if_pos c32] at H
  have c32b0 : (t189 == 0) = true := beq_iff_eq.mpr c32
  have c32b1 : (t189 != 0) = false := bne_eq_false_iff_eq.mpr c32
  clear c32
  by_cases c33 : t188 = 1
  rotate_left
  ·rw [if_neg c33] at H
   have c33b0 : (t188 == 1) = false := beq_eq_false_iff_ne.mpr c33
   have c33b1 : (t188 != 1) = true := bne_iff_ne.mpr c33
   have H' := Aside0.mk H
   clear H
   have hnb41 := NB176_183.out
   have hnc41 := NB183_176.out
   have hcz42_0 : w21.cell? ⟨gb176, 0, none⟩ = some (.bool false) := (blk_cell BK176.out 0).trans rfl
   have hcz42_1 : w21.cell? ⟨gb176, 1, none⟩ = some (.slice Ao13 t171.length co13) := (blk_cell BK176.out 1).trans rfl
   have hcz42_2 : w21.cell? ⟨gb176, 2, none⟩ = some (.string t174) := (blk_cell BK176.out 2).trans rfl
   have hfz42_0 := blk_frozen BK176.out 0
   have hfz42_1 := blk_frozen BK176.out 1
   have hfz42_2 := blk_frozen BK176.out 2
   have hcz43_0 : w21.cell? ⟨gb183, 0, none⟩ = some (.bool true) := (blk_cell BK183.out 0).trans rfl
   have hcz43_1 : w21.cell? ⟨gb183, 1, none⟩ = some (.slice Ao18 t178.length co18) := (blk_cell BK183.out 1).trans rfl
   have hcz43_2 : w21.cell? ⟨gb183, 2, none⟩ = some (.string t181) := (blk_cell BK183.out 2).trans rfl
   have hfz43_0 := blk_frozen BK183.out 0
   have hfz43_1 := blk_frozen BK183.out 1
   have hfz43_2 := blk_frozen BK183.out 2
   go_wp2_with (first | ((with_reducible refine gate_dst (N := 72) rfl ?_); (try (refine gate_guard (by rfl) ?_; dsimp only)); refine Kd.R_lit k39 _ 39 ?hg (N := 72) ?hd (xs := ([(⟨4, 1, 0⟩ : S39), (⟨2, 0, 0⟩ : S39)] : List (S39))) (inner := [.int .i64 4, .int .i64 1, .int .i64 0, .int .i64 2, .int .i64 0, .int .i64 0]) (ok := fun _ => True) (okp := fun _ => True) ?hr ?hp (fun _ hk => hk) trivial (Below.refl _ _) (Nat.le_refl _) (by simp) ?_; (case hd => rfl); (case hg => rfl); (case hr => first | (go_simp; done) | (go_simp; rfl)); (case hp => exact (Reps.c3 (show Kd.M k39 _ _ _ (⟨4, 1, 0⟩ : S39) [.int .i64 4, .int .i64 1, .int .i64 0] from (k39_mkM _ _ _ (⟨4, 1, 0⟩ : S39) )) (Reps.c3 (show Kd.M k39 _ _ _ (⟨2, 0, 0⟩ : S39) [.int .i64 2, .int .i64 0, .int .i64 0] from (k39_mkM _ _ _ (⟨2, 0, 0⟩ : S39) )) (Reps.none _ _)))); intro v193 w44 ho45 hb hg_ hnew_; clear hg_ hnew_; (first | rw [← Ny192.out] at ho45 | (simp only [Int.reduceToNat] at ho45; rw [← Ny192.out] at ho45)); have n0_ := Aside0.mk (Kd.R_elder' (by (with_reducible repeat (first | apply Kd.R_alloc | apply Kd.R_drewN | apply Kd.R_drew)); exact HO169.out) (Kd.R_base ho45) hb); have n1_ := Aside0.mk (Kd.R_below (by (with_reducible repeat (first | apply Kd.R_alloc | apply Kd.R_drewN | apply Kd.R_drew)); exact HO173.out) hb); have n2_ := Aside0.mk (Kd.R_below (by (with_reducible repeat (first | apply Kd.R_alloc | apply Kd.R_drewN | apply Kd.R_drew)); exact HO180.out) hb); have n3_ := Aside0.mk (Kd.R_elder' (by (with_reducible repeat (first | apply Kd.R_alloc | apply Kd.R_drewN | apply Kd.R_drew)); exact HO187.out) (Kd.R_base ho45) hb); have n4_ := Aside0.mk (Kd.R_lower (Kd.R_new' (Kd.R_new' ho45 (Kd.R_lt (by (with_reducible repeat (first | apply Kd.R_alloc | apply Kd.R_drewN | apply Kd.R_drew)); exact HO169.out))) (Kd.R_lt (by (with_reducible repeat (first | apply Kd.R_alloc | apply Kd.R_drewN | apply Kd.R_drew)); exact HO187.out))) (below_size (by repeat (first | (with_reducible first | exact HB.out | apply below_alloc | apply pw_below_drewN | apply below_drew1 | refine below_set ?_ GE176.out | refine below_set ?_ GE183.out) | exact HB.out)))); have n5_ := Aside0.mk (blk_below (g := gb176) (o := .cells #[.bool false, .slice Ao13 t171.length co13, .string t174] 55 (0, 0)) (by (with_reducible repeat (first | refine blk_drewN ?_ _ | refine blk_drew ?_ | refine blk_alloc ?_ _)); exact BK176.out) hb); have n6_ := Aside0.mk (blk_below (g := gb183) (o := .cells #[.bool true, .slice Ao18 t178.length co18, .string t181] 55 (0, 0)) (by (with_reducible repeat (first | refine blk_drewN ?_ _ | refine blk_drew ?_ | refine blk_alloc ?_ _)); exact BK183.out) hb); have n7_ := Aside0.mk (below_step (by repeat (first | (with_reducible first | exact HB.out | apply below_alloc | apply pw_below_drewN | apply below_drew1 | refine below_set ?_ GE176.out | refine below_set ?_ GE183.out) | exact HB.out)) hb); clear HO169; clear HO173; clear HO180; clear HO187; clear BK176; clear BK183; clear HB; have HO169 := n0_; have HO173 := n1_; have HO180 := n2_; have HO187 := n3_; have HO194 := n4_; have BK176 := n5_; have BK183 := n6_; have HB := n7_; clear n0_ n1_ n2_ n3_ n4_ n5_ n6_ n7_; clear hb ho45; obtain ⟨Ao46, co46, eo46⟩ := Kd.R_slice HO187.out; subst eo46; obtain ⟨Ao47, co47, eo47⟩ := Kd.R_slice HO194.out; subst eo47) | (go_at_call 20; (with_reducible refine (tickinglaw06_types.calls k _ _ t184 _ _ y192 true _ ?side1 ?side2 ?side3 ?side4 A30.out).mono ?_); (case side1 => repeat (first | exact (Kd.R_reads' HO187.out).2.2 | (with_reducible refine Kd.C_alloc ?_ _) | (with_reducible refine Kd.C_drewN ?_ _) | (with_reducible refine Kd.C_drew ?_))); (case side2 => exact (Kd.R_reads' HO187.out).2.1); (case side3 => repeat (first | exact (Kd.R_reads' HO194.out).2.2 | (with_reducible refine Kd.C_alloc ?_ _) | (with_reducible refine Kd.C_drewN ?_ _) | (with_reducible refine Kd.C_drew ?_))); (case side4 => exact (Kd.R_reads' HO194.out).2.1); rintro e w' ⟨rfl, ⟨nd, rfl⟩⟩))
   go_meet
   exact ⟨_, (true), (by first | rfl | (simp; done) | (simp [*]; done)), H', ⟨by first | omega | exact Nat.le_refl _⟩, ⟨by (with_reducible repeat (first | apply Kd.R_alloc | apply Kd.R_drewN | apply Kd.R_drew)); exact Kd.R_mono HO173.out (fun _ hk => hk.2)⟩, ⟨by (with_reducible repeat (first | apply Kd.R_alloc | apply Kd.R_drewN | apply Kd.R_drew)); exact Kd.R_mono HO180.out (fun _ hk => hk.2)⟩, ⟨by (with_reducible repeat (first | refine blk_drewN ?_ _ | refine blk_drew ?_ | refine blk_alloc ?_ _)); exact BK176.out⟩, ⟨by (with_reducible repeat (first | refine blk_drewN ?_ _ | refine blk_drew ?_ | refine blk_alloc ?_ _)); exact BK183.out⟩, ⟨by repeat (first | (with_reducible first | exact HB.out | apply below_alloc | apply pw_below_drewN | apply below_drew1 | refine below_set ?_ GE176.out | refine below_set ?_ GE183.out) | exact HB.out)⟩⟩
  rw [if_pos c33] at H
  have c33b0 : (t188 == 1) = true := beq_iff_eq.mpr c33
  have c33b1 : (t188 != 1) = false := bne_eq_false_iff_eq.mpr c33
  clear c33
  have H' := Aside0.mk H
  clear H
  have hnb34 := NB176_183.out
  have hnc34 := NB183_176.out
  have hcz35_0 : w21.cell? ⟨gb176, 0, none⟩ = some (.bool false) := (blk_cell BK176.out 0).trans rfl
  have hcz35_1 : w21.cell? ⟨gb176, 1, none⟩ = some (.slice Ao13 t171.length co13) := (blk_cell BK176.out 1).trans rfl
  have hcz35_2 : w21.cell? ⟨gb176, 2, none⟩ = some (.string t174) := (blk_cell BK176.out 2).trans rfl
  have hfz35_0 := blk_frozen BK176.out 0
  have hfz35_1 := blk_frozen BK176.out 1
  have hfz35_2 := blk_frozen BK176.out 2
  have hcz36_0 : w21.cell? ⟨gb183, 0, none⟩ = some (.bool true) := (blk_cell BK183.out 0).trans rfl
  have hcz36_1 : w21.cell? ⟨gb183, 1, none⟩ = some (.slice Ao18 t178.length co18) := (blk_cell BK183.out 1).trans rfl
  have hcz36_2 : w21.cell? ⟨gb183, 2, none⟩ = some (.string t181) := (blk_cell BK183.out 2).trans rfl
  have hfz36_0 := blk_frozen BK183.out 0
  have hfz36_1 := blk_frozen BK183.out 1
  have hfz36_2 := blk_frozen BK183.out 2
  go_wp2_with (first | ((with_reducible refine gate_dst (N := 72) rfl ?_); (try (refine gate_guard (by rfl) ?_; dsimp only)); refine Kd.R_lit k39 _ 39 ?hg (N := 72) ?hd (xs := ([(⟨4, 1, 0⟩ : S39), (⟨2, 0, 0⟩ : S39)] : List (S39))) (inner := [.int .i64 4, .int .i64 1, .int .i64 0, .int .i64 2, .int .i64 0, .int .i64 0]) (ok := fun _ => True) (okp := fun _ => True) ?hr ?hp (fun _ hk => hk) trivial (Below.refl _ _) (Nat.le_refl _) (by simp) ?_; (case hd => rfl); (case hg => rfl); (case hr => first | (go_simp; done) | (go_simp; rfl)); (case hp => exact (Reps.c3 (show Kd.M k39 _ _ _ (⟨4, 1, 0⟩ : S39) [.int .i64 4, .int .i64 1, .int .i64 0] from (k39_mkM _ _ _ (⟨4, 1, 0⟩ : S39) )) (Reps.c3 (show Kd.M k39 _ _ _ (⟨2, 0, 0⟩ : S39) [.int .i64 2, .int .i64 0, .int .i64 0] from (k39_mkM _ _ _ (⟨2, 0, 0⟩ : S39) )) (Reps.none _ _)))); intro v193 w37 ho38 hb hg_ hnew_; clear hg_ hnew_; (first | rw [← Ny192.out] at ho38 | (simp only [Int.reduceToNat] at ho38; rw [← Ny192.out] at ho38)); have n0_ := Aside0.mk (Kd.R_elder' (by (with_reducible repeat (first | apply Kd.R_alloc | apply Kd.R_drewN | apply Kd.R_drew)); exact HO169.out) (Kd.R_base ho38) hb); have n1_ := Aside0.mk (Kd.R_below (by (with_reducible repeat (first | apply Kd.R_alloc | apply Kd.R_drewN | apply Kd.R_drew)); exact HO173.out) hb); have n2_ := Aside0.mk (Kd.R_below (by (with_reducible repeat (first | apply Kd.R_alloc | apply Kd.R_drewN | apply Kd.R_drew)); exact HO180.out) hb); have n3_ := Aside0.mk (Kd.R_elder' (by (with_reducible repeat (first | apply Kd.R_alloc | apply Kd.R_drewN | apply Kd.R_drew)); exact HO187.out) (Kd.R_base ho38) hb); have n4_ := Aside0.mk (Kd.R_lower (Kd.R_new' (Kd.R_new' ho38 (Kd.R_lt (by (with_reducible repeat (first | apply Kd.R_alloc | apply Kd.R_drewN | apply Kd.R_drew)); exact HO169.out))) (Kd.R_lt (by (with_reducible repeat (first | apply Kd.R_alloc | apply Kd.R_drewN | apply Kd.R_drew)); exact HO187.out))) (below_size (by repeat (first | (with_reducible first | exact HB.out | apply below_alloc | apply pw_below_drewN | apply below_drew1 | refine below_set ?_ GE176.out | refine below_set ?_ GE183.out) | exact HB.out)))); have n5_ := Aside0.mk (blk_below (g := gb176) (o := .cells #[.bool false, .slice Ao13 t171.length co13, .string t174] 55 (0, 0)) (by (with_reducible repeat (first | refine blk_drewN ?_ _ | refine blk_drew ?_ | refine blk_alloc ?_ _)); exact BK176.out) hb); have n6_ := Aside0.mk (blk_below (g := gb183) (o := .cells #[.bool true, .slice Ao18 t178.length co18, .string t181] 55 (0, 0)) (by (with_reducible repeat (first | refine blk_drewN ?_ _ | refine blk_drew ?_ | refine blk_alloc ?_ _)); exact BK183.out) hb); have n7_ := Aside0.mk (below_step (by repeat (first | (with_reducible first | exact HB.out | apply below_alloc | apply pw_below_drewN | apply below_drew1 | refine below_set ?_ GE176.out | refine below_set ?_ GE183.out) | exact HB.out)) hb); clear HO169; clear HO173; clear HO180; clear HO187; clear BK176; clear BK183; clear HB; have HO169 := n0_; have HO173 := n1_; have HO180 := n2_; have HO187 := n3_; have HO194 := n4_; have BK176 := n5_; have BK183 := n6_; have HB := n7_; clear n0_ n1_ n2_ n3_ n4_ n5_ n6_ n7_; clear hb ho38; obtain ⟨Ao39, co39, eo39⟩ := Kd.R_slice HO187.out; subst eo39; obtain ⟨Ao40, co40, eo40⟩ := Kd.R_slice HO194.out; subst eo40) | (go_at_call 20; (with_reducible refine (tickinglaw06_types.calls k _ _ t184 _ _ y192 true _ ?side1 ?side2 ?side3 ?side4 A30.out).mono ?_); (case side1 => repeat (first | exact (Kd.R_reads' HO187.out).2.2 | (with_reducible refine Kd.C_alloc ?_ _) | (with_reducible refine Kd.C_drewN ?_ _) | (with_reducible refine Kd.C_drew ?_))); (case side2 => exact (Kd.R_reads' HO187.out).2.1); (case side3 => repeat (first | exact (Kd.R_reads' HO194.out).2.2 | (with_reducible refine Kd.C_alloc ?_ _) | (with_reducible refine Kd.C_drewN ?_ _) | (with_reducible refine Kd.C_drew ?_))); (case side4 => exact (Kd.R_reads' HO194.out).2.1); rintro e w' ⟨rfl, ⟨nd, rfl⟩⟩))
  go_meet
  exact ⟨_, ((t191 != 6)), (by first | rfl | (simp; done) | (simp [*]; done)), H', ⟨by first | omega | exact Nat.le_refl _⟩, ⟨by (with_reducible repeat (first | apply Kd.R_alloc | apply Kd.R_drewN | apply Kd.R_drew)); exact Kd.R_mono HO173.out (fun _ hk => hk.2)⟩, ⟨by (with_reducible repeat (first | apply Kd.R_alloc | apply Kd.R_drewN | apply Kd.R_drew)); exact Kd.R_mono HO180.out (fun _ hk => hk.2)⟩, ⟨by (with_reducible repeat (first | refine blk_drewN ?_ _ | refine blk_drew ?_ | refine blk_alloc ?_ _)); exact BK176.out⟩, ⟨by (with_reducible repeat (first | refine blk_drewN ?_ _ | refine blk_drew ?_ | refine blk_alloc ?_ _)); exact BK183.out⟩, ⟨by repeat (first | (with_reducible first | exact HB.out | apply below_alloc | apply pw_below_drewN | apply below_drew1 | refine below_set ?_ GE176.out | refine below_set ?_ GE183.out) | exact HB.out)⟩⟩
 case rest =>
  clear HC6
  try clear c1
  try clear c2
  try clear p2
  try clear c3
  try clear c4
  try clear c5
  try clear c6
  try clear c7
  try clear c16
  try clear c17
  try clear c19
  try clear c22
  try clear c22b0
  try clear c22b1
  try clear c23
  try clear c24
  try clear c26
  try clear c26b0
  try clear c26b1
  try clear c27
  try clear c27b0
  try clear c27b1
  try clear c28
  try clear c29
  try clear c29b0
  try clear c29b1
  try clear c31
  try clear c32
  try clear c32b0
  try clear c32b1
  try clear c33
  try clear c33b0
  try clear c33b1
  try clear c34
  try clear c41
  try clear c48
  try clear c55
  try clear c62
  try clear c65
  try clear c68
  try clear c70
  try clear hcz12_0
  try clear hcz12_1
  try clear hcz12_2
  try clear hcz17_0
  try clear hcz17_1
  try clear hcz17_2
  try clear hcz25_0
  try clear hcz25_1
  try clear hcz25_2
  try clear hcz35_0
  try clear hcz35_1
  try clear hcz35_2
  try clear hcz36_0
  try clear hcz36_1
  try clear hcz36_2
  try clear hcz42_0
  try clear hcz42_1
  try clear hcz42_2
  try clear hcz43_0
  try clear hcz43_1
  try clear hcz43_2
  try clear hcz49_0
  try clear hcz49_1
  try clear hcz49_2
  try clear hcz50_0
  try clear hcz50_1
  try clear hcz50_2
  try clear hcz56_0
  try clear hcz56_1
  try clear hcz56_2
  try clear hcz57_0
  try clear hcz57_1
  try clear hcz57_2
  try clear hcz63_0
  try clear hcz63_1
  try clear hcz63_2
  try clear hcz64_0
  try clear hcz64_1
  try clear hcz64_2
  try clear hcz66_0
  try clear hcz66_1
  try clear hcz66_2
  try clear hcz67_0
  try clear hcz67_1
  try clear hcz67_2
  try clear hcz69_0
  try clear hcz69_1
  try clear hcz69_2
  try clear hcz71_0
  try clear hcz71_1
  try clear hcz71_2
  try clear hfz12_0
  try clear hfz12_1
  try clear hfz12_2
  try clear hfz17_0
  try clear hfz17_1
  try clear hfz17_2
  try clear hfz25_0
  try clear hfz25_1
  try clear hfz25_2
  try clear hfz35_0
  try clear hfz35_1
  try clear hfz35_2
  try clear hfz36_0
  try clear hfz36_1
  try clear hfz36_2
  try clear hfz42_0
  try clear hfz42_1
  try clear hfz42_2
  try clear hfz43_0
  try clear hfz43_1
  try clear hfz43_2
  try clear hfz49_0
  try clear hfz49_1
  try clear hfz49_2
  try clear hfz50_0
  try clear hfz50_1
  try clear hfz50_2
  try clear hfz56_0
  try clear hfz56_1
  try clear hfz56_2
  try clear hfz57_0
  try clear hfz57_1
  try clear hfz57_2
  try clear hfz63_0
  try clear hfz63_1
  try clear hfz63_2
  try clear hfz64_0
  try clear hfz64_1
  try clear hfz64_2
  try clear hfz66_0
  try clear hfz66_1
  try clear hfz66_2
  try clear hfz67_0
  try clear hfz67_1
  try clear hfz67_2
  try clear hfz69_0
  try clear hfz69_1
  try clear hfz69_2
  try clear hfz71_0
  try clear hfz71_1
  try clear hfz71_2
  obtain ⟨kq, x87_5, rfl, HA, HJ5, HO_177001, HO_184001, BK176, BK183, HB⟩ := hcut
  cases kq with
  | zero => exact absurd HA.out (by simp [tickinglaw06_awake.j0])
  | succ kj5 =>
   have H := HA.out
   clear HA
   simp only [tickinglaw06_awake.j0] at H
   by_cases c72 : x87_5 = true
   ·subst c72
    have H1 : (some false) = some r := by rw [if_pos rfl] at H; exact H
    clear H
    have H := H1
    clear H1
    obtain rfl := Option.some.inj H
    go_wp2
    go_ret
    exact ⟨by first | rfl | (simp [errW_none, errW_some] <;> rfl) | (simp [*, errW_none, errW_some] <;> rfl), by repeat (first | (with_reducible first | exact HB.out | apply below_alloc | apply pw_below_drewN | apply below_drew1 | refine below_set ?_ GE176.out | refine below_set ?_ GE183.out) | exact HB.out)⟩
   replace c72 := Bool.eq_false_iff.mpr c72
   subst c72
   have H1 : (some true) = some r := by rw [if_neg (show ¬ (false = true) by decide)] at H; exact H
   clear H
   have H := H1
   clear H1
   obtain rfl := Option.some.inj H
   go_wp2
   go_ret
   exact ⟨by first | rfl | (simp [errW_none, errW_some] <;> rfl) | (simp [*, errW_none, errW_some] <;> rfl), by repeat (first | (with_reducible first | exact HB.out | apply below_alloc | apply pw_below_drewN | apply below_drew1 | refine below_set ?_ GE176.out | refine below_set ?_ GE183.out) | exact HB.out)⟩
end Go.Proofs.Ytnfmeafiaipplaa.S
