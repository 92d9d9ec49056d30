-- Written by wip/bundle2.py: texts of this claim, one behind the other.
import Derived.Test.YtnfmeafiaipplaaBLoopsChecks1
set_option linter.unusedVariables false
set_option linter.unusedSimpArgs false

namespace Go.Proofs.Ytnfmeafiaipplaa.S
open Go.Proofs.Ytnfmeafiaipplaa.Lib
open Go.Maps (Keyed)
open Go.RowKit Go.Proofs.YtnfmeafiaipplaaW.PrintWords Go.Proofs.YtnfmeafiaipplaaW.PrintLast Go.Proofs.YtnfmeafiaipplaaW.PrintMore
attribute [local go_sem] max2_int min2_int max_two min_two max_three min_three max_four min_four
set_option linter.unusedVariables false
set_option linter.unusedSimpArgs false

def tickinglaw06_awake.j0 : Nat → Bool → Option (Bool)
 | 0, _ => none
 | k + 1, x87 => if x87 = true then (some false) else (some true)
def tickinglaw06_awake.f (k : Nat)  : Option (Bool) := (some (([(⟨4, 1, 0⟩ : S39), (⟨2, 0, 0⟩ : S39), (⟨3, 0, 0⟩ : S39), (⟨5, 4, 1⟩ : S39), (⟨1, 0, 0⟩ : S39), (⟨5, 1, 4⟩ : S39)] : List (S39)) : List (S39))).bind fun y167 => ((loops_Sub.f k y167 1 2).bind fun bt170 => ((loops_Sub.f k y167 3 5).bind fun bt177 => ((loops_Canonical.f k y167 0).bind fun bt184 => ((loops_Depth.f k y167 3).bind fun bt188 => ((loops_Depth.f k y167 0).bind fun bt190 => (if bt170.2.2.2 = 0 then (if bt170.1 = true then (tickinglaw06_awake.j0 k true) else (if bt170.2.2.1.toList = ([] : List UInt8) then (if bt177.2.2.2 = 0 then (if bt177.1 = true then (if bt184.2 = 0 then ((tickinglaw06_types.f k bt184.1 (([(⟨4, 1, 0⟩ : S39), (⟨2, 0, 0⟩ : S39)] : List (S39)))).bind fun t195 => (if t195 = true then (if bt188.2 = 0 then (if bt188.1 = 1 then (tickinglaw06_awake.j0 k (bt190.2 != 6)) else (tickinglaw06_awake.j0 k true)) else (tickinglaw06_awake.j0 k true)) else (tickinglaw06_awake.j0 k true))) else (tickinglaw06_awake.j0 k true)) else (tickinglaw06_awake.j0 k true)) else (tickinglaw06_awake.j0 k true)) else (tickinglaw06_awake.j0 k true))) else (tickinglaw06_awake.j0 k true)))))))
theorem tickinglaw06_awake.mono_l : ∀ k, (∀ y0, LeO (tickinglaw06_awake.j0 k y0) (tickinglaw06_awake.j0 (k + 1) y0))
 | 0 => fun _ r h => by simp [tickinglaw06_awake.j0] at h
 | k + 1 => by
  have ih0 := tickinglaw06_awake.mono_l k
  ·intro y0
   unfold tickinglaw06_awake.j0
   repeat' first
   | (with_reducible exact ih0 _)
   | (with_reducible exact loops_Canonical.mono _ _ _)
   | (with_reducible exact loops_Depth.mono _ _ _)
   | (with_reducible exact loops_Sub.mono _ _ _ _)
   | (with_reducible exact tickinglaw06_types.mono _ _ _)
   | (with_reducible exact LeO.refl _)
   | (with_reducible exact LeO.none _)
   | (with_reducible refine LeO.ite ?_ ?_)
   | (with_reducible refine LeO.bind ?_ (fun _ => ?_))
   | exact ih0 _
   | exact loops_Canonical.mono _ _ _
   | exact loops_Depth.mono _ _ _
   | exact loops_Sub.mono _ _ _ _
   | exact tickinglaw06_types.mono _ _ _
   | exact LeO.none _
   | refine LeO.ite ?_ ?_
   | refine LeO.bind ?_ (fun _ => ?_)
theorem tickinglaw06_awake.mono : ∀ k, LeO (tickinglaw06_awake.f k ) (tickinglaw06_awake.f (k + 1) ) := by
 intro  k
 have ih0 := tickinglaw06_awake.mono_l k
 unfold tickinglaw06_awake.f
 repeat' first
   | (with_reducible exact ih0 _)
   | (with_reducible exact loops_Canonical.mono _ _ _)
   | (with_reducible exact loops_Depth.mono _ _ _)
   | (with_reducible exact loops_Sub.mono _ _ _ _)
   | (with_reducible exact tickinglaw06_types.mono _ _ _)
   | (with_reducible exact LeO.refl _)
   | (with_reducible exact LeO.none _)
   | (with_reducible refine LeO.ite ?_ ?_)
   | (with_reducible refine LeO.bind ?_ (fun _ => ?_))
   | exact ih0 _
   | exact loops_Canonical.mono _ _ _
   | exact loops_Depth.mono _ _ _
   | exact loops_Sub.mono _ _ _ _
   | exact tickinglaw06_types.mono _ _ _
   | exact LeO.none _
   | refine LeO.ite ?_ ?_
   | refine LeO.bind ?_ (fun _ => ?_)
set_option maxHeartbeats 8000000 in
set_option maxRecDepth 100000 in
theorem tickinglaw06_awake.calls (k : Nat)  (r : Bool) (w : World) (h : tickinglaw06_awake.f k  = some r) :
  Calls Try.prog 19 #[] w fun e w' => e = .returned (.bool r) ∧ Below w.heap.size w w' := by
 have hu39 := Try.underlying39
 have hu55 := Try.underlying55
 have HB := Aside0.mk (Below.refl w.heap.size w)
 have H : ((some (([(⟨4, 1, 0⟩ : S39), (⟨2, 0, 0⟩ : S39), (⟨3, 0, 0⟩ : S39), (⟨5, 4, 1⟩ : S39), (⟨1, 0, 0⟩ : S39), (⟨5, 1, 4⟩ : S39)] : List (S39)) : List (S39))).bind fun y167 => ((loops_Sub.f k y167 1 2).bind fun bt170 => ((loops_Sub.f k y167 3 5).bind fun bt177 => ((loops_Canonical.f k y167 0).bind fun bt184 => ((loops_Depth.f k y167 3).bind fun bt188 => ((loops_Depth.f k y167 0).bind fun bt190 => (if bt170.2.2.2 = 0 then (if bt170.1 = true then (tickinglaw06_awake.j0 k true) else (if bt170.2.2.1.toList = ([] : List UInt8) then (if bt177.2.2.2 = 0 then (if bt177.1 = true then (if bt184.2 = 0 then ((tickinglaw06_types.f k bt184.1 (([(⟨4, 1, 0⟩ : S39), (⟨2, 0, 0⟩ : S39)] : List (S39)))).bind fun t195 => (if t195 = true then (if bt188.2 = 0 then (if bt188.1 = 1 then (tickinglaw06_awake.j0 k (bt190.2 != 6)) else (tickinglaw06_awake.j0 k true)) else (tickinglaw06_awake.j0 k true)) else (tickinglaw06_awake.j0 k true))) else (tickinglaw06_awake.j0 k true)) else (tickinglaw06_awake.j0 k true)) else (tickinglaw06_awake.j0 k true)) else (tickinglaw06_awake.j0 k true))) else (tickinglaw06_awake.j0 k true)))))))) = some r := h
 clear h
 obtain ⟨y167, hy167⟩ : ∃ y_ : List (S39), y_ = (([(⟨4, 1, 0⟩ : S39), (⟨2, 0, 0⟩ : S39), (⟨3, 0, 0⟩ : S39), (⟨5, 4, 1⟩ : S39), (⟨1, 0, 0⟩ : S39), (⟨5, 1, 4⟩ : S39)] : List (S39))) := ⟨_, rfl⟩
 replace H : ((loops_Sub.f k y167 1 2).bind fun bt170 => ((loops_Sub.f k y167 3 5).bind fun bt177 => ((loops_Canonical.f k y167 0).bind fun bt184 => ((loops_Depth.f k y167 3).bind fun bt188 => ((loops_Depth.f k y167 0).bind fun bt190 => (if bt170.2.2.2 = 0 then (if bt170.1 = true then (tickinglaw06_awake.j0 k true) else (if bt170.2.2.1.toList = ([] : List UInt8) then (if bt177.2.2.2 = 0 then (if bt177.1 = true then (if bt184.2 = 0 then ((tickinglaw06_types.f k bt184.1 (([(⟨4, 1, 0⟩ : S39), (⟨2, 0, 0⟩ : S39)] : List (S39)))).bind fun t195 => (if t195 = true then (if bt188.2 = 0 then (if bt188.1 = 1 then (tickinglaw06_awake.j0 k (bt190.2 != 6)) else (tickinglaw06_awake.j0 k true)) else (tickinglaw06_awake.j0 k true)) else (tickinglaw06_awake.j0 k true))) else (tickinglaw06_awake.j0 k true)) else (tickinglaw06_awake.j0 k true)) else (tickinglaw06_awake.j0 k true)) else (tickinglaw06_awake.j0 k true))) else (tickinglaw06_awake.j0 k true))))))) = some r := by first | (rw [hy167]; with_reducible exact H) | (have H2_ := (Option.bind_some _ _).symm.trans H; rw [hy167]; with_reducible exact H2_) | (have H2_ := (Option.bind_some _ _).symm.trans H; with_reducible exact H2_) | with_reducible exact H | (rw [hy167]; exact H) | exact H
 have Ny167 := Aside0.mk hy167
 clear hy167
 replace H := Option.bind_eq_some_iff.mp H
 obtain ⟨⟨t170, t171, t174, t175⟩, A10, H⟩ := H
 replace H : ((loops_Sub.f k y167 3 5).bind fun bt177 => ((loops_Canonical.f k y167 0).bind fun bt184 => ((loops_Depth.f k y167 3).bind fun bt188 => ((loops_Depth.f k y167 0).bind fun bt190 => (if t175 = 0 then (if t170 = true then (tickinglaw06_awake.j0 k true) else (if t174.toList = ([] : List UInt8) then (if bt177.2.2.2 = 0 then (if bt177.1 = true then (if bt184.2 = 0 then ((tickinglaw06_types.f k bt184.1 (([(⟨4, 1, 0⟩ : S39), (⟨2, 0, 0⟩ : S39)] : List (S39)))).bind fun t195 => (if t195 = true then (if bt188.2 = 0 then (if bt188.1 = 1 then (tickinglaw06_awake.j0 k (bt190.2 != 6)) else (tickinglaw06_awake.j0 k true)) else (tickinglaw06_awake.j0 k true)) else (tickinglaw06_awake.j0 k true))) else (tickinglaw06_awake.j0 k true)) else (tickinglaw06_awake.j0 k true)) else (tickinglaw06_awake.j0 k true)) else (tickinglaw06_awake.j0 k true))) else (tickinglaw06_awake.j0 k true)))))) = some r := H
 have A1 := Aside0.mk A10
 clear A10
 replace H := Option.bind_eq_some_iff.mp H
 obtain ⟨⟨t177, t178, t181, t182⟩, A20, H⟩ := H
 replace H : ((loops_Canonical.f k y167 0).bind fun bt184 => ((loops_Depth.f k y167 3).bind fun bt188 => ((loops_Depth.f k y167 0).bind fun bt190 => (if t175 = 0 then (if t170 = true then (tickinglaw06_awake.j0 k true) else (if t174.toList = ([] : List UInt8) then (if t182 = 0 then (if t177 = true then (if bt184.2 = 0 then ((tickinglaw06_types.f k bt184.1 (([(⟨4, 1, 0⟩ : S39), (⟨2, 0, 0⟩ : S39)] : List (S39)))).bind fun t195 => (if t195 = true then (if bt188.2 = 0 then (if bt188.1 = 1 then (tickinglaw06_awake.j0 k (bt190.2 != 6)) else (tickinglaw06_awake.j0 k true)) else (tickinglaw06_awake.j0 k true)) else (tickinglaw06_awake.j0 k true))) else (tickinglaw06_awake.j0 k true)) else (tickinglaw06_awake.j0 k true)) else (tickinglaw06_awake.j0 k true)) else (tickinglaw06_awake.j0 k true))) else (tickinglaw06_awake.j0 k true))))) = some r := H
 have A2 := Aside0.mk A20
 clear A20
 replace H := Option.bind_eq_some_iff.mp H
 obtain ⟨⟨t184, t185⟩, A30, H⟩ := H
 replace H : ((loops_Depth.f k y167 3).bind fun bt188 => ((loops_Depth.f k y167 0).bind fun bt190 => (if t175 = 0 then (if t170 = true then (tickinglaw06_awake.j0 k true) else (if t174.toList = ([] : List UInt8) then (if t182 = 0 then (if t177 = true then (if t185 = 0 then ((tickinglaw06_types.f k t184 (([(⟨4, 1, 0⟩ : S39), (⟨2, 0, 0⟩ : S39)] : List (S39)))).bind fun t195 => (if t195 = true then (if bt188.2 = 0 then (if bt188.1 = 1 then (tickinglaw06_awake.j0 k (bt190.2 != 6)) else (tickinglaw06_awake.j0 k true)) else (tickinglaw06_awake.j0 k true)) else (tickinglaw06_awake.j0 k true))) else (tickinglaw06_awake.j0 k true)) else (tickinglaw06_awake.j0 k true)) else (tickinglaw06_awake.j0 k true)) else (tickinglaw06_awake.j0 k true))) else (tickinglaw06_awake.j0 k true)))) = some r := H
 have A3 := Aside0.mk A30
 clear A30
 replace H := Option.bind_eq_some_iff.mp H
 obtain ⟨⟨t188, t189⟩, A40, H⟩ := H
 replace H : ((loops_Depth.f k y167 0).bind fun bt190 => (if t175 = 0 then (if t170 = true then (tickinglaw06_awake.j0 k true) else (if t174.toList = ([] : List UInt8) then (if t182 = 0 then (if t177 = true then (if t185 = 0 then ((tickinglaw06_types.f k t184 (([(⟨4, 1, 0⟩ : S39), (⟨2, 0, 0⟩ : S39)] : List (S39)))).bind fun t195 => (if t195 = true then (if t189 = 0 then (if t188 = 1 then (tickinglaw06_awake.j0 k (bt190.2 != 6)) else (tickinglaw06_awake.j0 k true)) else (tickinglaw06_awake.j0 k true)) else (tickinglaw06_awake.j0 k true))) else (tickinglaw06_awake.j0 k true)) else (tickinglaw06_awake.j0 k true)) else (tickinglaw06_awake.j0 k true)) else (tickinglaw06_awake.j0 k true))) else (tickinglaw06_awake.j0 k true))) = some r := H
 have A4 := Aside0.mk A40
 clear A40
 replace H := Option.bind_eq_some_iff.mp H
 obtain ⟨⟨t190, t191⟩, A50, H⟩ := H
 replace H : (if t175 = 0 then (if t170 = true then (tickinglaw06_awake.j0 k true) else (if t174.toList = ([] : List UInt8) then (if t182 = 0 then (if t177 = true then (if t185 = 0 then ((tickinglaw06_types.f k t184 (([(⟨4, 1, 0⟩ : S39), (⟨2, 0, 0⟩ : S39)] : List (S39)))).bind fun t195 => (if t195 = true then (if t189 = 0 then (if t188 = 1 then (tickinglaw06_awake.j0 k (t191 != 6)) else (tickinglaw06_awake.j0 k true)) else (tickinglaw06_awake.j0 k true)) else (tickinglaw06_awake.j0 k true))) else (tickinglaw06_awake.j0 k true)) else (tickinglaw06_awake.j0 k true)) else (tickinglaw06_awake.j0 k true)) else (tickinglaw06_awake.j0 k true))) else (tickinglaw06_awake.j0 k true)) = some r := H
 have A5 := Aside0.mk A50
 clear A50
 have HC6 := Aside0.mk H
 clear H
 go_enter Try.func19, Try.ntmps19
 go_upto_region 7 with (first | ((with_reducible refine gate_dst (N := 18) rfl ?_); (try (refine gate_guard (by rfl) ?_; dsimp only)); refine Kd.R_lit k39 _ 39 ?hg (N := 18) ?hd (xs := ([(⟨4, 1, 0⟩ : S39), (⟨2, 0, 0⟩ : S39), (⟨3, 0, 0⟩ : S39), (⟨5, 4, 1⟩ : S39), (⟨1, 0, 0⟩ : S39), (⟨5, 1, 4⟩ : S39)] : List (S39))) (inner := [.int .i64 4, .int .i64 1, .int .i64 0, .int .i64 2, .int .i64 0, .int .i64 0, .int .i64 3, .int .i64 0, .int .i64 0, .int .i64 5, .int .i64 4, .int .i64 1, .int .i64 1, .int .i64 0, .int .i64 0, .int .i64 5, .int .i64 1, .int .i64 4]) (ok := fun _ => True) (okp := fun _ => True) ?hr ?hp (fun _ hk => hk) trivial (Below.refl _ _) (Nat.le_refl _) (by simp) ?_; (case hd => rfl); (case hg => rfl); (case hr => first | (go_simp; done) | (go_simp; rfl)); (case hp => exact (Reps.c3 (show Kd.M k39 _ _ _ (⟨4, 1, 0⟩ : S39) [.int .i64 4, .int .i64 1, .int .i64 0] from (k39_mkM _ _ _ (⟨4, 1, 0⟩ : S39) )) (Reps.c3 (show Kd.M k39 _ _ _ (⟨2, 0, 0⟩ : S39) [.int .i64 2, .int .i64 0, .int .i64 0] from (k39_mkM _ _ _ (⟨2, 0, 0⟩ : S39) )) (Reps.c3 (show Kd.M k39 _ _ _ (⟨3, 0, 0⟩ : S39) [.int .i64 3, .int .i64 0, .int .i64 0] from (k39_mkM _ _ _ (⟨3, 0, 0⟩ : S39) )) (Reps.c3 (show Kd.M k39 _ _ _ (⟨5, 4, 1⟩ : S39) [.int .i64 5, .int .i64 4, .int .i64 1] from (k39_mkM _ _ _ (⟨5, 4, 1⟩ : S39) )) (Reps.c3 (show Kd.M k39 _ _ _ (⟨1, 0, 0⟩ : S39) [.int .i64 1, .int .i64 0, .int .i64 0] from (k39_mkM _ _ _ (⟨1, 0, 0⟩ : S39) )) (Reps.c3 (show Kd.M k39 _ _ _ (⟨5, 1, 4⟩ : S39) [.int .i64 5, .int .i64 1, .int .i64 4] from (k39_mkM _ _ _ (⟨5, 1, 4⟩ : S39) )) (Reps.none _ _)))))))); intro v168 w7 ho8 hb hg_ hnew_; clear hg_ hnew_; (first | rw [← Ny167.out] at ho8 | (simp only [Int.reduceToNat] at ho8; rw [← Ny167.out] at ho8)); have n0_ := Aside0.mk (Kd.R_lower ho8 (below_size (by repeat (first | (with_reducible first | exact HB.out | apply below_alloc | apply pw_below_drewN | apply below_drew1) | exact HB.out)))); have n1_ := Aside0.mk (below_step (by repeat (first | (with_reducible first | exact HB.out | apply below_alloc | apply pw_below_drewN | apply below_drew1) | exact HB.out)) hb); clear HB; have HO169 := n0_; have HB := n1_; clear n0_ n1_; clear hb ho8; obtain ⟨Ao9, co9, eo9⟩ := Kd.R_slice HO169.out; subst eo9) | ((with_reducible refine gate_callee (f := 33) rfl ?_); refine goesL_ (some 21) rfl rfl Try.func33 (by kernel_rfl) rfl #[.slice Ao9 y167.length co9, .int .i64 1, .int .i64 2] rfl (by (try simp only [List.map_toArray, List.map_cons, List.map_nil]); first | done | rfl | (simp only [List.length_drop, List.length_take]; rfl)) ?_; (with_reducible refine (loops_Sub.calls k _ _ y167 1 2 t170 t171 t174 t175 _ ?side1 ?side2 A1.out).mono ?_); (case side1 => repeat (first | exact (Kd.R_reads' HO169.out).2.2 | (with_reducible refine Kd.C_alloc ?_ _) | (with_reducible refine Kd.C_drewN ?_ _) | (with_reducible refine Kd.C_drew ?_))); (case side2 => exact (Kd.R_reads' HO169.out).2.1); rintro e w10 ⟨v172, rfl, ho0, hb⟩; refine ⟨_, rfl, ?_⟩; have n0_ := Aside0.mk (Kd.R_below (by (with_reducible repeat (first | apply Kd.R_alloc | apply Kd.R_drewN | apply Kd.R_drew)); exact HO169.out) hb); have n1_ := Aside0.mk (Kd.R_lower ho0 (below_size (by repeat (first | (with_reducible first | exact HB.out | apply below_alloc | apply pw_below_drewN | apply below_drew1) | exact HB.out)))); have n2_ := Aside0.mk (below_step (by repeat (first | (with_reducible first | exact HB.out | apply below_alloc | apply pw_below_drewN | apply below_drew1) | exact HB.out)) hb); clear HO169; clear HB; have HO169 := n0_; have HO173 := n1_; have HB := n2_; clear n0_ n1_ n2_; (try clear hb); (try clear hb2); (try clear hk); (try clear hi); (try clear ho0)) | ((with_reducible refine gate_dst (N := 2) rfl ?_); (try (refine gate_guard (by rfl) ?_; dsimp only)); refine box_event ?hg (N := 2) ?hd (cs := #[.bool false, .slice none 0 0, .string (⟨#[]⟩ : ByteArray)]) (t := 55) ?hr ?_; (case hd => rfl); (case hg => rfl); (case hr => first | (go_simp; done) | (go_simp; rfl)); intro gb176 hg w11 hbox hb; have n0_ := Aside0.mk (Kd.R_below (by (with_reducible repeat (first | apply Kd.R_alloc | apply Kd.R_drewN | apply Kd.R_drew)); exact HO169.out) hb); have n1_ := Aside0.mk (Kd.R_below (by (with_reducible repeat (first | apply Kd.R_alloc | apply Kd.R_drewN | apply Kd.R_drew)); exact HO173.out) hb); have n2_ := Aside0.mk (below_step (by repeat (first | (with_reducible first | exact HB.out | apply below_alloc | apply pw_below_drewN | apply below_drew1) | exact HB.out)) hb); have n3_ := Aside0.mk (hbox); have n4_ := Aside0.mk ((by rw [hg]; exact (below_size (by repeat (first | (with_reducible first | exact HB.out | apply below_alloc | apply pw_below_drewN | apply below_drew1) | exact HB.out))) : w.heap.size ≤ gb176)); have n5_ := Aside0.mk ((by rw [hg]; exact (below_size (by repeat (first | (with_reducible first | exact HB.out | apply below_alloc | apply pw_below_drewN | apply below_drew1) | exact HB.out))) : w.heap.size ≤ gb176)); clear HO169; clear HO173; clear HB; have HO169 := n0_; have HO173 := n1_; have HB := n2_; have BK176 := n3_; have GW176 := n4_; have GE176 := n5_; clear n0_ n1_ n2_ n3_ n4_ n5_; clear hb hbox hg; have hcz12_0 : w11.cell? ⟨gb176, 0, none⟩ = some (.bool false) := (blk_cell BK176.out 0).trans rfl; have hcz12_1 : w11.cell? ⟨gb176, 1, none⟩ = some (.slice none 0 0) := (blk_cell BK176.out 1).trans rfl; have hcz12_2 : w11.cell? ⟨gb176, 2, none⟩ = some (.string (⟨#[]⟩ : ByteArray)) := (blk_cell BK176.out 2).trans rfl; have hfz12_0 := blk_frozen BK176.out 0; have hfz12_1 := blk_frozen BK176.out 1; have hfz12_2 := blk_frozen BK176.out 2; obtain ⟨Ao13, co13, eo13⟩ := Kd.R_slice HO173.out; subst eo13) | ((with_reducible refine gate_callee (f := 33) rfl ?_); refine goesL_ (some 26) rfl rfl Try.func33 (by kernel_rfl) rfl #[.slice Ao9 y167.length co9, .int .i64 3, .int .i64 5] rfl (by (try simp only [List.map_toArray, List.map_cons, List.map_nil]); first | done | rfl | (simp only [List.length_drop, List.length_take]; rfl)) ?_; (with_reducible refine (loops_Sub.calls k _ _ y167 3 5 t177 t178 t181 t182 _ ?side1 ?side2 A2.out).mono ?_); (case side1 => refine (Kd.R_reads' (e := 39) (base := w.heap.size) (ok := fun k_ => True) (n := y167.length) (c := co9) ?_).2.2; exact (by (with_reducible repeat (first | apply Kd.R_alloc | apply Kd.R_drewN | apply Kd.R_drew)); exact (Kd.R_mono (Kd.R_far (p := ⟨gb176, 2, none⟩) (Kd.R_far (p := ⟨gb176, 1, none⟩) (Kd.R_far (p := ⟨gb176, 0, none⟩) (Kd.R_types HO169.out BK176.out (by decide)) (fun _ hk => hk.2) (.bool t170)) (fun _ hk => hk.2) (.slice Ao13 t171.length co13)) (fun _ hk => hk.2) (.string t174)) (fun _ h_ => h_.1)))); (case side2 => exact (Kd.R_reads' HO169.out).2.1); rintro e w14 ⟨v179, rfl, ho0, hb⟩; refine ⟨_, rfl, ?_⟩; have n0_ := Aside0.mk (Kd.R_below (by (with_reducible repeat (first | apply Kd.R_alloc | apply Kd.R_drewN | apply Kd.R_drew)); exact (Kd.R_mono (Kd.R_far (p := ⟨gb176, 2, none⟩) (Kd.R_far (p := ⟨gb176, 1, none⟩) (Kd.R_far (p := ⟨gb176, 0, none⟩) (Kd.R_types HO169.out BK176.out (by decide)) (fun _ hk => hk.2) (.bool t170)) (fun _ hk => hk.2) (.slice Ao13 t171.length co13)) (fun _ hk => hk.2) (.string t174)) (fun _ h_ => h_.1))) hb); have n1_ := Aside0.mk (Kd.R_elder' (by (with_reducible repeat (first | apply Kd.R_alloc | apply Kd.R_drewN | apply Kd.R_drew)); exact (Kd.R_mono (Kd.R_far (p := ⟨gb176, 2, none⟩) (Kd.R_far (p := ⟨gb176, 1, none⟩) (Kd.R_far (p := ⟨gb176, 0, none⟩) (Kd.R_types HO173.out BK176.out (by decide)) (fun _ hk => hk.2) (.bool t170)) (fun _ hk => hk.2) (.slice Ao13 t171.length co13)) (fun _ hk => hk.2) (.string t174)) (fun _ h_ => h_.1))) (Kd.R_base ho0) hb); have n2_ := Aside0.mk (Kd.R_lower (Kd.R_new' ho0 (Kd.R_lt (by (with_reducible repeat (first | apply Kd.R_alloc | apply Kd.R_drewN | apply Kd.R_drew)); exact (Kd.R_mono (Kd.R_far (p := ⟨gb176, 2, none⟩) (Kd.R_far (p := ⟨gb176, 1, none⟩) (Kd.R_far (p := ⟨gb176, 0, none⟩) (Kd.R_types HO173.out BK176.out (by decide)) (fun _ hk => hk.2) (.bool t170)) (fun _ hk => hk.2) (.slice Ao13 t171.length co13)) (fun _ hk => hk.2) (.string t174)) (fun _ h_ => h_.1))))) (below_size (by repeat (first | (with_reducible first | exact HB.out | apply below_alloc | apply pw_below_drewN | apply below_drew1 | refine below_set ?_ GE176.out) | exact HB.out)))); have n3_ := Aside0.mk (blk_below (g := gb176) (o := .cells #[.bool t170, .slice Ao13 t171.length co13, .string t174] 55 (0, 0)) (by (with_reducible repeat (first | refine blk_drewN ?_ _ | refine blk_drew ?_ | refine blk_alloc ?_ _)); refine blk_put (cs := #[.bool t170, .slice Ao13 t171.length co13, .string (⟨#[]⟩ : ByteArray)]) ?_ 2 _ rfl; (with_reducible repeat (first | refine blk_drewN ?_ _ | refine blk_drew ?_ | refine blk_alloc ?_ _)); refine blk_put (cs := #[.bool t170, .slice none 0 0, .string (⟨#[]⟩ : ByteArray)]) ?_ 1 _ rfl; (with_reducible repeat (first | refine blk_drewN ?_ _ | refine blk_drew ?_ | refine blk_alloc ?_ _)); refine blk_put (cs := #[.bool false, .slice none 0 0, .string (⟨#[]⟩ : ByteArray)]) ?_ 0 _ rfl; (with_reducible repeat (first | refine blk_drewN ?_ _ | refine blk_drew ?_ | refine blk_alloc ?_ _)); exact BK176.out) hb); have n4_ := Aside0.mk (below_step (by repeat (first | (with_reducible first | exact HB.out | apply below_alloc | apply pw_below_drewN | apply below_drew1 | refine below_set ?_ GE176.out) | exact HB.out)) hb); clear HO169; clear HO173; clear BK176; clear HB; have HO169 := n0_; have HO173 := n1_; have HO180 := n2_; have BK176 := n3_; have HB := n4_; clear n0_ n1_ n2_ n3_ n4_; (try clear hb); (try clear hb2); (try clear hk); (try clear hi); (try clear ho0)) | ((with_reducible refine gate_dst (N := 4) rfl ?_); (try (refine gate_guard (by rfl) ?_; dsimp only)); refine box_event ?hg (N := 4) ?hd (cs := #[.bool false, .slice none 0 0, .string (⟨#[]⟩ : ByteArray)]) (t := 55) ?hr ?_; (case hd => rfl); (case hg => rfl); (case hr => first | (go_simp; done) | (go_simp; rfl)); intro gb183 hg w15 hbox hb; have n0_ := Aside0.mk (Kd.R_below (by (with_reducible repeat (first | apply Kd.R_alloc | apply Kd.R_drewN | apply Kd.R_drew)); exact HO169.out) hb); have n1_ := Aside0.mk (Kd.R_below (by (with_reducible repeat (first | apply Kd.R_alloc | apply Kd.R_drewN | apply Kd.R_drew)); exact HO173.out) hb); have n2_ := Aside0.mk (Kd.R_below (by (with_reducible repeat (first | apply Kd.R_alloc | apply Kd.R_drewN | apply Kd.R_drew)); exact HO180.out) hb); have n3_ := Aside0.mk (blk_below (g := gb176) (o := .cells #[.bool t170, .slice Ao13 t171.length co13, .string t174] 55 (0, 0)) (by (with_reducible repeat (first | refine blk_drewN ?_ _ | refine blk_drew ?_ | refine blk_alloc ?_ _)); exact BK176.out) hb); have n4_ := Aside0.mk (below_step (by repeat (first | (with_reducible first | exact HB.out | apply below_alloc | apply pw_below_drewN | apply below_drew1 | refine below_set ?_ GE176.out) | exact HB.out)) hb); have n5_ := Aside0.mk (hbox); have n6_ := Aside0.mk ((by rw [hg]; exact (below_size (by repeat (first | (with_reducible first | exact HB.out | apply below_alloc | apply pw_below_drewN | apply below_drew1 | refine below_set ?_ GE176.out) | exact HB.out))) : w.heap.size ≤ gb183)); have n7_ := Aside0.mk ((by rw [hg]; exact (below_size (by repeat (first | (with_reducible first | exact HB.out | apply below_alloc | apply pw_below_drewN | apply below_drew1 | refine below_set ?_ GE176.out) | exact HB.out))) : w.heap.size ≤ gb183)); have n8_ := Aside0.mk ((by rw [hg]; exact Nat.ne_of_lt (blk_lt (g := gb176) (o := .cells #[.bool t170, .slice Ao13 t171.length co13, .string t174] 55 (0, 0)) (by (with_reducible repeat (first | refine blk_drewN ?_ _ | refine blk_drew ?_ | refine blk_alloc ?_ _)); exact BK176.out)) : gb176 ≠ gb183)); have n9_ := Aside0.mk ((by rw [hg]; exact Nat.ne_of_gt (blk_lt (g := gb176) (o := .cells #[.bool t170, .slice Ao13 t171.length co13, .string t174] 55 (0, 0)) (by (with_reducible repeat (first | refine blk_drewN ?_ _ | refine blk_drew ?_ | refine blk_alloc ?_ _)); exact BK176.out)) : gb183 ≠ gb176)); clear HO169; clear HO173; clear HO180; clear BK176; clear HB; have HO169 := n0_; have HO173 := n1_; have HO180 := n2_; have BK176 := n3_; have HB := n4_; have BK183 := n5_; have GW183 := n6_; have GE183 := n7_; have NB176_183 := n8_; have NB183_176 := n9_; clear n0_ n1_ n2_ n3_ n4_ n5_ n6_ n7_ n8_ n9_; clear hb hbox hg; have hnb16 := NB183_176.out; have hnc16 := NB176_183.out; have hcz17_0 : w15.cell? ⟨gb183, 0, none⟩ = some (.bool false) := (blk_cell BK183.out 0).trans rfl; have hcz17_1 : w15.cell? ⟨gb183, 1, none⟩ = some (.slice none 0 0) := (blk_cell BK183.out 1).trans rfl; have hcz17_2 : w15.cell? ⟨gb183, 2, none⟩ = some (.string (⟨#[]⟩ : ByteArray)) := (blk_cell BK183.out 2).trans rfl; have hfz17_0 := blk_frozen BK183.out 0; have hfz17_1 := blk_frozen BK183.out 1; have hfz17_2 := blk_frozen BK183.out 2; obtain ⟨Ao18, co18, eo18⟩ := Kd.R_slice HO180.out; subst eo18) | ((with_reducible refine gate_callee (f := 17) rfl ?_); refine goesL_ (some 31) rfl rfl Try.func17 (by kernel_rfl) rfl #[.slice Ao9 y167.length co9, .int .i64 0] rfl (by (try simp only [List.map_toArray, List.map_cons, List.map_nil]); first | done | rfl | (simp only [List.length_drop, List.length_take]; rfl)) ?_; (with_reducible refine (loops_Canonical.calls k _ _ y167 0 t184 t185 _ ?side1 ?side2 A3.out).mono ?_); (case side1 => refine (Kd.R_reads' (e := 39) (base := w.heap.size) (ok := fun k_ => True) (n := y167.length) (c := co9) ?_).2.2; exact (by (with_reducible repeat (first | apply Kd.R_alloc | apply Kd.R_drewN | apply Kd.R_drew)); exact (Kd.R_mono (Kd.R_far (p := ⟨gb183, 2, none⟩) (Kd.R_far (p := ⟨gb183, 1, none⟩) (Kd.R_far (p := ⟨gb183, 0, none⟩) (Kd.R_types HO169.out BK183.out (by decide)) (fun _ hk => hk.2) (.bool t177)) (fun _ hk => hk.2) (.slice Ao18 t178.length co18)) (fun _ hk => hk.2) (.string t181)) (fun _ h_ => h_.1)))); (case side2 => exact (Kd.R_reads' HO169.out).2.1); rintro e w19 ⟨v186, rfl, ho0, hb⟩; refine ⟨_, rfl, ?_⟩; have n0_ := Aside0.mk (Kd.R_elder' (by (with_reducible repeat (first | apply Kd.R_alloc | apply Kd.R_drewN | apply Kd.R_drew)); exact (Kd.R_mono (Kd.R_far (p := ⟨gb183, 2, none⟩) (Kd.R_far (p := ⟨gb183, 1, none⟩) (Kd.R_far (p := ⟨gb183, 0, none⟩) (Kd.R_types HO169.out BK183.out (by decide)) (fun _ hk => hk.2) (.bool t177)) (fun _ hk => hk.2) (.slice Ao18 t178.length co18)) (fun _ hk => hk.2) (.string t181)) (fun _ h_ => h_.1))) (Kd.R_base ho0) hb); have n1_ := Aside0.mk (Kd.R_below (by (with_reducible repeat (first | apply Kd.R_alloc | apply Kd.R_drewN | apply Kd.R_drew)); exact (Kd.R_mono (Kd.R_far (p := ⟨gb183, 2, none⟩) (Kd.R_far (p := ⟨gb183, 1, none⟩) (Kd.R_far (p := ⟨gb183, 0, none⟩) (Kd.R_types HO173.out BK183.out (by decide)) (fun _ hk => hk.2) (.bool t177)) (fun _ hk => hk.2) (.slice Ao18 t178.length co18)) (fun _ hk => hk.2) (.string t181)) (fun _ h_ => h_.1))) hb); have n2_ := Aside0.mk (Kd.R_below (by (with_reducible repeat (first | apply Kd.R_alloc | apply Kd.R_drewN | apply Kd.R_drew)); exact (Kd.R_mono (Kd.R_far (p := ⟨gb183, 2, none⟩) (Kd.R_far (p := ⟨gb183, 1, none⟩) (Kd.R_far (p := ⟨gb183, 0, none⟩) (Kd.R_types HO180.out BK183.out (by decide)) (fun _ hk => hk.2) (.bool t177)) (fun _ hk => hk.2) (.slice Ao18 t178.length co18)) (fun _ hk => hk.2) (.string t181)) (fun _ h_ => h_.1))) hb); have n3_ := Aside0.mk (Kd.R_lower (Kd.R_new' ho0 (Kd.R_lt (by (with_reducible repeat (first | apply Kd.R_alloc | apply Kd.R_drewN | apply Kd.R_drew)); exact (Kd.R_mono (Kd.R_far (p := ⟨gb183, 2, none⟩) (Kd.R_far (p := ⟨gb183, 1, none⟩) (Kd.R_far (p := ⟨gb183, 0, none⟩) (Kd.R_types HO169.out BK183.out (by decide)) (fun _ hk => hk.2) (.bool t177)) (fun _ hk => hk.2) (.slice Ao18 t178.length co18)) (fun _ hk => hk.2) (.string t181)) (fun _ h_ => h_.1))))) (below_size (by repeat (first | (with_reducible first | exact HB.out | apply below_alloc | apply pw_below_drewN | apply below_drew1 | refine below_set ?_ GE176.out | refine below_set ?_ GE183.out) | exact HB.out)))); have n4_ := Aside0.mk (blk_below (g := gb176) (o := .cells #[.bool t170, .slice Ao13 t171.length co13, .string t174] 55 (0, 0)) (by (with_reducible repeat (first | refine blk_drewN ?_ _ | refine blk_drew ?_ | refine blk_alloc ?_ _)); refine blk_far ?_ NB176_183.out _; (with_reducible repeat (first | refine blk_drewN ?_ _ | refine blk_drew ?_ | refine blk_alloc ?_ _)); refine blk_far ?_ NB176_183.out _; (with_reducible repeat (first | refine blk_drewN ?_ _ | refine blk_drew ?_ | refine blk_alloc ?_ _)); refine blk_far ?_ NB176_183.out _; (with_reducible repeat (first | refine blk_drewN ?_ _ | refine blk_drew ?_ | refine blk_alloc ?_ _)); exact BK176.out) hb); have n5_ := Aside0.mk (blk_below (g := gb183) (o := .cells #[.bool t177, .slice Ao18 t178.length co18, .string t181] 55 (0, 0)) (by (with_reducible repeat (first | refine blk_drewN ?_ _ | refine blk_drew ?_ | refine blk_alloc ?_ _)); refine blk_put (cs := #[.bool t177, .slice Ao18 t178.length co18, .string (⟨#[]⟩ : ByteArray)]) ?_ 2 _ rfl; (with_reducible repeat (first | refine blk_drewN ?_ _ | refine blk_drew ?_ | refine blk_alloc ?_ _)); refine blk_put (cs := #[.bool t177, .slice none 0 0, .string (⟨#[]⟩ : ByteArray)]) ?_ 1 _ rfl; (with_reducible repeat (first | refine blk_drewN ?_ _ | refine blk_drew ?_ | refine blk_alloc ?_ _)); refine blk_put (cs := #[.bool false, .slice none 0 0, .string (⟨#[]⟩ : ByteArray)]) ?_ 0 _ rfl; (with_reducible repeat (first | refine blk_drewN ?_ _ | refine blk_drew ?_ | refine blk_alloc ?_ _)); exact BK183.out) hb); have n6_ := Aside0.mk (below_step (by repeat (first | (with_reducible first | exact HB.out | apply below_alloc | apply pw_below_drewN | apply below_drew1 | refine below_set ?_ GE176.out | refine below_set ?_ GE183.out) | exact HB.out)) hb); clear HO169; clear HO173; clear HO180; clear BK176; clear BK183; clear HB; have HO169 := n0_; have HO173 := n1_; have HO180 := n2_; have HO187 := n3_; have BK176 := n4_; have BK183 := n5_; have HB := n6_; clear n0_ n1_ n2_ n3_ n4_ n5_ n6_; (try clear hb); (try clear hb2); (try clear hk); (try clear hi); (try clear ho0)) | ((with_reducible refine gate_callee (f := 28) rfl ?_); refine goesL_ (some 36) rfl rfl Try.func28 (by kernel_rfl) rfl #[.slice Ao9 y167.length co9, .int .i64 3] rfl (by (try simp only [List.map_toArray, List.map_cons, List.map_nil]); first | done | rfl | (simp only [List.length_drop, List.length_take]; rfl)) ?_; (with_reducible refine (loops_Depth.calls k _ _ y167 3 t188 t189 _ ?side1 ?side2 A4.out).mono ?_); (case side1 => repeat (first | exact (Kd.R_reads' HO169.out).2.2 | (with_reducible refine Kd.C_alloc ?_ _) | (with_reducible refine Kd.C_drewN ?_ _) | (with_reducible refine Kd.C_drew ?_))); (case side2 => exact (Kd.R_reads' HO169.out).2.1); rintro e w20 ⟨rfl, hb⟩; refine ⟨_, rfl, ?_⟩; have n0_ := Aside0.mk (Kd.R_below (by (with_reducible repeat (first | apply Kd.R_alloc | apply Kd.R_drewN | apply Kd.R_drew)); exact HO169.out) hb); have n1_ := Aside0.mk (Kd.R_below (by (with_reducible repeat (first | apply Kd.R_alloc | apply Kd.R_drewN | apply Kd.R_drew)); exact HO173.out) hb); have n2_ := Aside0.mk (Kd.R_below (by (with_reducible repeat (first | apply Kd.R_alloc | apply Kd.R_drewN | apply Kd.R_drew)); exact HO180.out) hb); have n3_ := Aside0.mk (Kd.R_below (by (with_reducible repeat (first | apply Kd.R_alloc | apply Kd.R_drewN | apply Kd.R_drew)); exact HO187.out) hb); have n4_ := Aside0.mk (blk_below (g := gb176) (o := .cells #[.bool t170, .slice Ao13 t171.length co13, .string t174] 55 (0, 0)) (by (with_reducible repeat (first | refine blk_drewN ?_ _ | refine blk_drew ?_ | refine blk_alloc ?_ _)); exact BK176.out) hb); have n5_ := Aside0.mk (blk_below (g := gb183) (o := .cells #[.bool t177, .slice Ao18 t178.length co18, .string t181] 55 (0, 0)) (by (with_reducible repeat (first | refine blk_drewN ?_ _ | refine blk_drew ?_ | refine blk_alloc ?_ _)); exact BK183.out) hb); have n6_ := Aside0.mk (below_step (by repeat (first | (with_reducible first | exact HB.out | apply below_alloc | apply pw_below_drewN | apply below_drew1 | refine below_set ?_ GE176.out | refine below_set ?_ GE183.out) | exact HB.out)) hb); clear HO169; clear HO173; clear HO180; clear HO187; clear BK176; clear BK183; clear HB; have HO169 := n0_; have HO173 := n1_; have HO180 := n2_; have HO187 := n3_; have BK176 := n4_; have BK183 := n5_; have HB := n6_; clear n0_ n1_ n2_ n3_ n4_ n5_ n6_; (try clear hb); (try clear hb2); (try clear hk); (try clear hi)) | ((with_reducible refine gate_callee (f := 28) rfl ?_); refine goesL_ (some 41) rfl rfl Try.func28 (by kernel_rfl) rfl #[.slice Ao9 y167.length co9, .int .i64 0] rfl (by (try simp only [List.map_toArray, List.map_cons, List.map_nil]); first | done | rfl | (simp only [List.length_drop, List.length_take]; rfl)) ?_; (with_reducible refine (loops_Depth.calls k _ _ y167 0 t190 t191 _ ?side1 ?side2 A5.out).mono ?_); (case side1 => repeat (first | exact (Kd.R_reads' HO169.out).2.2 | (with_reducible refine Kd.C_alloc ?_ _) | (with_reducible refine Kd.C_drewN ?_ _) | (with_reducible refine Kd.C_drew ?_))); (case side2 => exact (Kd.R_reads' HO169.out).2.1); rintro e w21 ⟨rfl, hb⟩; refine ⟨_, rfl, ?_⟩; have n0_ := Aside0.mk (Kd.R_below (by (with_reducible repeat (first | apply Kd.R_alloc | apply Kd.R_drewN | apply Kd.R_drew)); exact HO169.out) hb); have n1_ := Aside0.mk (Kd.R_below (by (with_reducible repeat (first | apply Kd.R_alloc | apply Kd.R_drewN | apply Kd.R_drew)); exact HO173.out) hb); have n2_ := Aside0.mk (Kd.R_below (by (with_reducible repeat (first | apply Kd.R_alloc | apply Kd.R_drewN | apply Kd.R_drew)); exact HO180.out) hb); have n3_ := Aside0.mk (Kd.R_below (by (with_reducible repeat (first | apply Kd.R_alloc | apply Kd.R_drewN | apply Kd.R_drew)); exact HO187.out) hb); have n4_ := Aside0.mk (blk_below (g := gb176) (o := .cells #[.bool t170, .slice Ao13 t171.length co13, .string t174] 55 (0, 0)) (by (with_reducible repeat (first | refine blk_drewN ?_ _ | refine blk_drew ?_ | refine blk_alloc ?_ _)); exact BK176.out) hb); have n5_ := Aside0.mk (blk_below (g := gb183) (o := .cells #[.bool t177, .slice Ao18 t178.length co18, .string t181] 55 (0, 0)) (by (with_reducible repeat (first | refine blk_drewN ?_ _ | refine blk_drew ?_ | refine blk_alloc ?_ _)); exact BK183.out) hb); have n6_ := Aside0.mk (below_step (by repeat (first | (with_reducible first | exact HB.out | apply below_alloc | apply pw_below_drewN | apply below_drew1 | refine below_set ?_ GE176.out | refine below_set ?_ GE183.out) | exact HB.out)) hb); clear HO169; clear HO173; clear HO180; clear HO187; clear BK176; clear BK183; clear HB; have HO169 := n0_; have HO173 := n1_; have HO180 := n2_; have HO187 := n3_; have BK176 := n4_; have BK183 := n5_; have HB := n6_; clear n0_ n1_ n2_ n3_ n4_ n5_ n6_; (try clear hb); (try clear hb2); (try clear hk); (try clear hi)))
 (try simp only [Act.put, List.setIfInBounds_toArray, List.set_cons_zero, List.set_cons_succ])
 go_cut [87] (fun v87 wc => ∃ (kq : Nat) (x87_5 : Bool), v87 = .bool x87_5 ∧ Aside0 (tickinglaw06_awake.j0 kq x87_5 = some r) ∧ Aside0 (kq ≤ k) ∧ Aside0 (Kd.R k23 23 wc w.heap.size (fun k_ => some k_ ≠ ((.slice Ao18 t178.length co18) : Value).ownBlock) (.slice Ao13 t171.length co13) t171) ∧ Aside0 (Kd.R k23 23 wc w.heap.size (fun k_ => some k_ ≠ ((.slice Ao13 t171.length co13) : Value).ownBlock) (.slice Ao18 t178.length co18) t178) ∧ Aside0 (wc.heap[gb176]? = some (.cells #[.bool t170, (.slice Ao13 t171.length co13), .string t174] 55 (0, 0))) ∧ Aside0 (wc.heap[gb183]? = some (.cells #[.bool t177, (.slice Ao18 t178.length co18), .string t181] 55 (0, 0))) ∧ Aside0 (Below w.heap.size w wc))
 case first =>
  have H := HC6.out
  clear HC6
  by_cases c22 : t175 = 0
  rotate_left
  ·rw [if_neg c22] at H
   have c22b0 : (t175 == 0) = false := beq_eq_false_iff_ne.mpr c22
   have c22b1 : (t175 != 0) = true := bne_iff_ne.mpr c22
   (first | rw [c22b0] | (simp only [i64_w, i32_w]; rw [c22b0]) | skip)
   have H' := Aside0.mk H
   clear H
   go_wp2
   go_meet
   exact ⟨_, (true), (by first | rfl | (simp; done) | (simp [*]; done)), H', ⟨by first | omega | exact Nat.le_refl _⟩, ⟨by (with_reducible repeat (first | apply Kd.R_alloc | apply Kd.R_drewN | apply Kd.R_drew)); exact Kd.R_mono HO173.out (fun _ hk => hk.2)⟩, ⟨by (with_reducible repeat (first | apply Kd.R_alloc | apply Kd.R_drewN | apply Kd.R_drew)); exact Kd.R_mono HO180.out (fun _ hk => hk.2)⟩, ⟨by (with_reducible repeat (first | refine blk_drewN ?_ _ | refine blk_drew ?_ | refine blk_alloc ?_ _)); exact BK176.out⟩, ⟨by (with_reducible repeat (first | refine blk_drewN ?_ _ | refine blk_drew ?_ | refine blk_alloc ?_ _)); exact BK183.out⟩, ⟨by repeat (first | (with_reducible first | exact HB.out | apply below_alloc | apply pw_below_drewN | apply below_drew1 | refine below_set ?_ GE176.out | refine below_set ?_ GE183.out) | exact HB.out)⟩⟩
  rw [if_pos c22] at H
  have c22b0 : (t175 == 0) = true := beq_iff_eq.mpr c22
  have c22b1 : (t175 != 0) = false := bne_eq_false_iff_eq.mpr c22
  clear c22
  (first | rw [c22b0] | (simp only [i64_w, i32_w]; rw [c22b0]) | skip)
  by_cases c23 : t170 = true
  ·subst c23
   have H1 : (tickinglaw06_awake.j0 k true) = some r := by rw [if_pos rfl] at H; exact H
   clear H
   have H := H1
   clear H1
   have H' := Aside0.mk H
   clear H
   have hnb24 := NB176_183.out
   have hnc24 := NB183_176.out
   have hcz25_0 : w21.cell? ⟨gb176, 0, none⟩ = some (.bool true) := (blk_cell BK176.out 0).trans rfl
   have hcz25_1 : w21.cell? ⟨gb176, 1, none⟩ = some (.slice Ao13 t171.length co13) := (blk_cell BK176.out 1).trans rfl
   have hcz25_2 : w21.cell? ⟨gb176, 2, none⟩ = some (.string t174) := (blk_cell BK176.out 2).trans rfl
   have hfz25_0 := blk_frozen BK176.out 0
   have hfz25_1 := blk_frozen BK176.out 1
   have hfz25_2 := blk_frozen BK176.out 2
   go_wp2
   go_meet
   exact ⟨_, (true), (by first | rfl | (simp; done) | (simp [*]; done)), H', ⟨by first | omega | exact Nat.le_refl _⟩, ⟨by (with_reducible repeat (first | apply Kd.R_alloc | apply Kd.R_drewN | apply Kd.R_drew)); exact Kd.R_mono HO173.out (fun _ hk => hk.2)⟩, ⟨by (with_reducible repeat (first | apply Kd.R_alloc | apply Kd.R_drewN | apply Kd.R_drew)); exact Kd.R_mono HO180.out (fun _ hk => hk.2)⟩, ⟨by (with_reducible repeat (first | refine blk_drewN ?_ _ | refine blk_drew ?_ | refine blk_alloc ?_ _)); exact BK176.out⟩, ⟨by (with_reducible repeat (first | refine blk_drewN ?_ _ | refine blk_drew ?_ | refine blk_alloc ?_ _)); exact BK183.out⟩, ⟨by repeat (first | (with_reducible first | exact HB.out | apply below_alloc | apply pw_below_drewN | apply below_drew1 | refine below_set ?_ GE176.out | refine below_set ?_ GE183.out) | exact HB.out)⟩⟩
  replace c23 := Bool.eq_false_iff.mpr c23
  subst c23
  have H1 : (if t174.toList = ([] : List UInt8) then (if t182 = 0 then (if t177 = true then (if t185 = 0 then ((tickinglaw06_types.f k t184 (([(⟨4, 1, 0⟩ : S39), (⟨2, 0, 0⟩ : S39)] : List (S39)))).bind fun t195 => (if t195 = true then (if t189 = 0 then (if t188 = 1 then (tickinglaw06_awake.j0 k (t191 != 6)) else (tickinglaw06_awake.j0 k true)) else (tickinglaw06_awake.j0 k true)) else (tickinglaw06_awake.j0 k true))) else (tickinglaw06_awake.j0 k true)) else (tickinglaw06_awake.j0 k true)) else (tickinglaw06_awake.j0 k true)) else (tickinglaw06_awake.j0 k true)) = some r := by rw [if_neg (show ¬ (false = true) by decide)] at H; exact H
  clear H
  have H := H1
  clear H1
  by_cases c26 : t174.toList = ([] : List UInt8)
  rotate_left
  ·rw [if_neg c26] at H
   have c26b0 : (t174.toList == ([] : List UInt8)) = false := beq_eq_false_iff_ne.mpr c26
   have c26b1 : (t174.toList != ([] : List UInt8)) = true := bne_iff_ne.mpr c26
   have H' := Aside0.mk H
   clear H
   have hnb70 := NB176_183.out
   have hnc70 := NB183_176.out
   have hcz71_0 : w21.cell? ⟨gb176, 0, none⟩ = some (.bool false) := (blk_cell BK176.out 0).trans rfl
   have hcz71_1 : w21.cell? ⟨gb176, 1, none⟩ = some (.slice Ao13 t171.length co13) := (blk_cell BK176.out 1).trans rfl
   have hcz71_2 : w21.cell? ⟨gb176, 2, none⟩ = some (.string t174) := (blk_cell BK176.out 2).trans rfl
   have hfz71_0 := blk_frozen BK176.out 0
   have hfz71_1 := blk_frozen BK176.out 1
   have hfz71_2 := blk_frozen BK176.out 2
   go_wp2
   go_meet
   exact ⟨_, (true), (by first | rfl | (simp; done) | (simp [*]; done)), H', ⟨by first | omega | exact Nat.le_refl _⟩, ⟨by (with_reducible repeat (first | apply Kd.R_alloc | apply Kd.R_drewN | apply Kd.R_drew)); exact Kd.R_mono HO173.out (fun _ hk => hk.2)⟩, ⟨by (with_reducible repeat (first | apply Kd.R_alloc | apply Kd.R_drewN | apply Kd.R_drew)); exact Kd.R_mono HO180.out (fun _ hk => hk.2)⟩, ⟨by (with_reducible repeat (first | refine blk_drewN ?_ _ | refine blk_drew ?_ | refine blk_alloc ?_ _)); exact BK176.out⟩, ⟨by (with_reducible repeat (first | refine blk_drewN ?_ _ | refine blk_drew ?_ | refine blk_alloc ?_ _)); exact BK183.out⟩, ⟨by repeat (first | (with_reducible first | exact HB.out | apply below_alloc | apply pw_below_drewN | apply below_drew1 | refine below_set ?_ GE176.out | refine below_set ?_ GE183.out) | exact HB.out)⟩⟩
  rw [if_pos c26] at H
  have c26b0 : (t174.toList == ([] : List UInt8)) = true := beq_iff_eq.mpr c26
  have c26b1 : (t174.toList != ([] : List UInt8)) = false := bne_eq_false_iff_eq.mpr c26
  clear c26
  by_cases c27 : t182 = 0
  rotate_left
  ·rw [if_neg c27] at H
   have c27b0 : (t182 == 0) = false := beq_eq_false_iff_ne.mpr c27
   have c27b1 : (t182 != 0) = true := bne_iff_ne.mpr c27
   have H' := Aside0.mk H
   clear H
   have hnb68 := NB176_183.out
   have hnc68 := NB183_176.out
   have hcz69_0 : w21.cell? ⟨gb176, 0, none⟩ = some (.bool false) := (blk_cell BK176.out 0).trans rfl
   have hcz69_1 : w21.cell? ⟨gb176, 1, none⟩ = some (.slice Ao13 t171.length co13) := (blk_cell BK176.out 1).trans rfl
   have hcz69_2 : w21.cell? ⟨gb176, 2, none⟩ = some (.string t174) := (blk_cell BK176.out 2).trans rfl
   have hfz69_0 := blk_frozen BK176.out 0
   have hfz69_1 := blk_frozen BK176.out 1
   have hfz69_2 := blk_frozen BK176.out 2
   go_wp2
   go_meet
   exact ⟨_, (true), (by first | rfl | (simp; done) | (simp [*]; done)), H', ⟨by first | omega | exact Nat.le_refl _⟩, ⟨by (with_reducible repeat (first | apply Kd.R_alloc | apply Kd.R_drewN | apply Kd.R_drew)); exact Kd.R_mono HO173.out (fun _ hk => hk.2)⟩, ⟨by (with_reducible repeat (first | apply Kd.R_alloc | apply Kd.R_drewN | apply Kd.R_drew)); exact Kd.R_mono HO180.out (fun _ hk => hk.2)⟩, ⟨by (with_reducible repeat (first | refine blk_drewN ?_ _ | refine blk_drew ?_ | refine blk_alloc ?_ _)); exact BK176.out⟩, ⟨by (with_reducible repeat (first | refine blk_drewN ?_ _ | refine blk_drew ?_ | refine blk_alloc ?_ _)); exact BK183.out⟩, ⟨by repeat (first | (with_reducible first | exact HB.out | apply below_alloc | apply pw_below_drewN | apply below_drew1 | refine below_set ?_ GE176.out | refine below_set ?_ GE183.out) | exact HB.out)⟩⟩
  rw [if_pos c27] at H
  have c27b0 : (t182 == 0) = true := beq_iff_eq.mpr c27
  have c27b1 : (t182 != 0) = false := bne_eq_false_iff_eq.mpr c27
  clear c27
  by_cases c28 : t177 = true
  rotate_left
  ·replace c28 := Bool.eq_false_iff.mpr c28
   subst c28
   have H1 : (tickinglaw06_awake.j0 k true) = some r := by rw [if_neg (show ¬ (false = true) by decide)] at H; exact H
   clear H
   have H := H1
   clear H1
   have H' := Aside0.mk H
   clear H
   have hnb65 := NB176_183.out
   have hnc65 := NB183_176.out
   have hcz66_0 : w21.cell? ⟨gb176, 0, none⟩ = some (.bool false) := (blk_cell BK176.out 0).trans rfl
   have hcz66_1 : w21.cell? ⟨gb176, 1, none⟩ = some (.slice Ao13 t171.length co13) := (blk_cell BK176.out 1).trans rfl
   have hcz66_2 : w21.cell? ⟨gb176, 2, none⟩ = some (.string t174) := (blk_cell BK176.out 2).trans rfl
   have hfz66_0 := blk_frozen BK176.out 0
   have hfz66_1 := blk_frozen BK176.out 1
   have hfz66_2 := blk_frozen BK176.out 2
   have hcz67_0 : w21.cell? ⟨gb183, 0, none⟩ = some (.bool false) := (blk_cell BK183.out 0).trans rfl
   have hcz67_1 : w21.cell? ⟨gb183, 1, none⟩ = some (.slice Ao18 t178.length co18) := (blk_cell BK183.out 1).trans rfl
   have hcz67_2 : w21.cell? ⟨gb183, 2, none⟩ = some (.string t181) := (blk_cell BK183.out 2).trans rfl
   have hfz67_0 := blk_frozen BK183.out 0
   have hfz67_1 := blk_frozen BK183.out 1
   have hfz67_2 := blk_frozen BK183.out 2
   go_wp2
   go_meet
   exact ⟨_, (true), (by first | rfl | (simp; done) | (simp [*]; done)), H', ⟨by first | omega | exact Nat.le_refl _⟩, ⟨by (with_reducible repeat (first | apply Kd.R_alloc | apply Kd.R_drewN | apply Kd.R_drew)); exact Kd.R_mono HO173.out (fun _ hk => hk.2)⟩, ⟨by (with_reducible repeat (first | apply Kd.R_alloc | apply Kd.R_drewN | apply Kd.R_drew)); exact Kd.R_mono HO180.out (fun _ hk => hk.2)⟩, ⟨by (with_reducible repeat (first | refine blk_drewN ?_ _ | refine blk_drew ?_ | refine blk_alloc ?_ _)); exact BK176.out⟩, ⟨by (with_reducible repeat (first | refine blk_drewN ?_ _ | refine blk_drew ?_ | refine blk_alloc ?_ _)); exact BK183.out⟩, ⟨by repeat (first | (with_reducible first | exact HB.out | apply below_alloc | apply pw_below_drewN | apply below_drew1 | refine below_set ?_ GE176.out | refine below_set ?_ GE183.out) | exact HB.out)⟩⟩
  subst c28
  have H1 : (if t185 = 0 then ((tickinglaw06_types.f k t184 (([(⟨4, 1, 0⟩ : S39), (⟨2, 0, 0⟩ : S39)] : List (S39)))).bind fun t195 => (if t195 = true then (if t189 = 0 then (if t188 = 1 then (tickinglaw06_awake.j0 k (t191 != 6)) else (tickinglaw06_awake.j0 k true)) else (tickinglaw06_awake.j0 k true)) else (tickinglaw06_awake.j0 k true))) else (tickinglaw06_awake.j0 k true)) = some r := by rw [if_pos rfl] at H; exact H
  clear H
  have H := H1
  clear H1
  by_cases c29 : t185 = 0
  rotate_left
  ·rw [if_neg c29] at H
   have c29b0 : (t185 == 0) = false := beq_eq_false_iff_ne.mpr c29
   have c29b1 : (t185 != 0) = true := bne_iff_ne.mpr c29
   have H' := Aside0.mk H
   clear H
   have hnb62 := NB176_183.out
   have hnc62 := NB183_176.out
   have hcz63_0 : w21.cell? ⟨gb176, 0, none⟩ = some (.bool false) := (blk_cell BK176.out 0).trans rfl
   have hcz63_1 : w21.cell? ⟨gb176, 1, none⟩ = some (.slice Ao13 t171.length co13) := (blk_cell BK176.out 1).trans rfl
   have hcz63_2 : w21.cell? ⟨gb176, 2, none⟩ = some (.string t174) := (blk_cell BK176.out 2).trans rfl
   have hfz63_0 := blk_frozen BK176.out 0
   have hfz63_1 := blk_frozen BK176.out 1
   have hfz63_2 := blk_frozen BK176.out 2
   have hcz64_0 : w21.cell? ⟨gb183, 0, none⟩ = some (.bool true) := (blk_cell BK183.out 0).trans rfl
   have hcz64_1 : w21.cell? ⟨gb183, 1, none⟩ = some (.slice Ao18 t178.length co18) := (blk_cell BK183.out 1).trans rfl
   have hcz64_2 : w21.cell? ⟨gb183, 2, none⟩ = some (.string t181) := (blk_cell BK183.out 2).trans rfl
   have hfz64_0 := blk_frozen BK183.out 0
   have hfz64_1 := blk_frozen BK183.out 1
   have hfz64_2 := blk_frozen BK183.out 2
   go_wp2
   go_meet
   exact ⟨_, (true), (by first | rfl | (simp; done) | (simp [*]; done)), H', ⟨by first | omega | exact Nat.le_refl _⟩, ⟨by (with_reducible repeat (first | apply Kd.R_alloc | apply Kd.R_drewN | apply Kd.R_drew)); exact Kd.R_mono HO173.out (fun _ hk => hk.2)⟩, ⟨by (with_reducible repeat (first | apply Kd.R_alloc | apply Kd.R_drewN | apply Kd.R_drew)); exact Kd.R_mono HO180.out (fun _ hk => hk.2)⟩, ⟨by (with_reducible repeat (first | refine blk_drewN ?_ _ | refine blk_drew ?_ | refine blk_alloc ?_ _)); exact BK176.out⟩, ⟨by (with_reducible repeat (first | refine blk_drewN ?_ _ | refine blk_drew ?_ | refine blk_alloc ?_ _)); exact BK183.out⟩, ⟨by repeat (first | (with_reducible first | exact HB.out | apply below_alloc | apply pw_below_drewN | apply below_drew1 | refine below_set ?_ GE176.out | refine below_set ?_ GE183.out) | exact HB.out)⟩⟩
  rw [if_pos c29] at H
  have c29b0 : (t185 == 0) = true := beq_iff_eq.mpr c29
  have c29b1 : (t185 != 0) = false := bne_eq_false_iff_eq.mpr c29
  clear c29
  obtain ⟨y192, hy192⟩ : ∃ y_ : List (S39), y_ = (([(⟨4, 1, 0⟩ : S39), (⟨2, 0, 0⟩ : S39)] : List (S39))) := ⟨_, rfl⟩
  replace H : ((tickinglaw06_types.f k t184 y192).bind fun t195 => (if t195 = true then (if t189 = 0 then (if t188 = 1 then (tickinglaw06_awake.j0 k (t191 != 6)) else (tickinglaw06_awake.j0 k true)) else (tickinglaw06_awake.j0 k true)) else (tickinglaw06_awake.j0 k true))) = some r := by first | (rw [hy192]; with_reducible exact H) | (have H2_ := (Option.bind_some _ _).symm.trans H; rw [hy192]; with_reducible exact H2_) | (have H2_ := (Option.bind_some _ _).symm.trans H; with_reducible exact H2_) | with_reducible exact H | (rw [hy192]; exact H) | exact H
  have Ny192 := Aside0.mk hy192
  clear hy192
  replace H := Option.bind_eq_some_iff.mp H
  obtain ⟨t195, A300, H⟩ := H
  replace H : (if t195 = true then (if t189 = 0 then (if t188 = 1 then (tickinglaw06_awake.j0 k (t191 != 6)) else (tickinglaw06_awake.j0 k true)) else (tickinglaw06_awake.j0 k true)) else (tickinglaw06_awake.j0 k true)) = some r := H
  have A30 := Aside0.mk A300
  clear A300
  by_cases c31 : t195 = true
  rotate_left
  ·replace c31 := Bool.eq_false_iff.mpr c31
   subst c31
   have H1 : (tickinglaw06_awake.j0 k true) = some r := by rw [if_neg (show ¬ (false = true) by decide)] at H; exact H
   clear H
   have H := H1
   clear H1
   have H' := Aside0.mk H
   clear H
   have hnb55 := NB176_183.out
   have hnc55 := NB183_176.out
   have hcz56_0 : w21.cell? ⟨gb176, 0, none⟩ = some (.bool false) := (blk_cell BK176.out 0).trans rfl
   have hcz56_1 : w21.cell? ⟨gb176, 1, none⟩ = some (.slice Ao13 t171.length co13) := (blk_cell BK176.out 1).trans rfl
   have hcz56_2 : w21.cell? ⟨gb176, 2, none⟩ = some (.string t174) := (blk_cell BK176.out 2).trans rfl
   have hfz56_0 := blk_frozen BK176.out 0
   have hfz56_1 := blk_frozen BK176.out 1
   have hfz56_2 := blk_frozen BK176.out 2
   have hcz57_0 : w21.cell? ⟨gb183, 0, none⟩ = some (.bool true) := (blk_cell BK183.out 0).trans rfl
   have hcz57_1 : w21.cell? ⟨gb183, 1, none⟩ = some (.slice Ao18 t178.length co18) := (blk_cell BK183.out 1).trans rfl
   have hcz57_2 : w21.cell? ⟨gb183, 2, none⟩ = some (.string t181) := (blk_cell BK183.out 2).trans rfl
   have hfz57_0 := blk_frozen BK183.out 0
   have hfz57_1 := blk_frozen BK183.out 1
   have hfz57_2 := blk_frozen BK183.out 2
   go_wp2_with (first | ((with_reducible refine gate_dst (N := 72) rfl ?_); (try (refine gate_guard (by rfl) ?_; dsimp only)); refine Kd.R_lit k39 _ 39 ?hg (N := 72) ?hd (xs := ([(⟨4, 1, 0⟩ : S39), (⟨2, 0, 0⟩ : S39)] : List (S39))) (inner := [.int .i64 4, .int .i64 1, .int .i64 0, .int .i64 2, .int .i64 0, .int .i64 0]) (ok := fun _ => True) (okp := fun _ => True) ?hr ?hp (fun _ hk => hk) trivial (Below.refl _ _) (Nat.le_refl _) (by simp) ?_; (case hd => rfl); (case hg => rfl); (case hr => first | (go_simp; done) | (go_simp; rfl)); (case hp => exact (Reps.c3 (show Kd.M k39 _ _ _ (⟨4, 1, 0⟩ : S39) [.int .i64 4, .int .i64 1, .int .i64 0] from (k39_mkM _ _ _ (⟨4, 1, 0⟩ : S39) )) (Reps.c3 (show Kd.M k39 _ _ _ (⟨2, 0, 0⟩ : S39) [.int .i64 2, .int .i64 0, .int .i64 0] from (k39_mkM _ _ _ (⟨2, 0, 0⟩ : S39) )) (Reps.none _ _)))); intro v193 w58 ho59 hb hg_ hnew_; clear hg_ hnew_; (first | rw [← Ny192.out] at ho59 | (simp only [Int.reduceToNat] at ho59; rw [← Ny192.out] at ho59)); have n0_ := Aside0.mk (Kd.R_elder' (by (with_reducible repeat (first | apply Kd.R_alloc | apply Kd.R_drewN | apply Kd.R_drew)); exact HO169.out) (Kd.R_base ho59) hb); have n1_ := Aside0.mk (Kd.R_below (by (with_reducible repeat (first | apply Kd.R_alloc | apply Kd.R_drewN | apply Kd.R_drew)); exact HO173.out) hb); have n2_ := Aside0.mk (Kd.R_below (by (with_reducible repeat (first | apply Kd.R_alloc | apply Kd.R_drewN | apply Kd.R_drew)); exact HO180.out) hb); have n3_ := Aside0.mk (Kd.R_elder' (by (with_reducible repeat (first | apply Kd.R_alloc | apply Kd.R_drewN | apply Kd.R_drew)); exact HO187.out) (Kd.R_base ho59) hb); have n4_ := Aside0.mk (Kd.R_lower (Kd.R_new' (Kd.R_new' ho59 (Kd.R_lt (by (with_reducible repeat (first | apply Kd.R_alloc | apply Kd.R_drewN | apply Kd.R_drew)); exact HO169.out))) (Kd.R_lt (by (with_reducible repeat (first | apply Kd.R_alloc | apply Kd.R_drewN | apply Kd.R_drew)); exact HO187.out))) (below_size (by repeat (first | (with_reducible first | exact HB.out | apply below_alloc | apply pw_below_drewN | apply below_drew1 | refine below_set ?_ GE176.out | refine below_set ?_ GE183.out) | exact HB.out)))); have n5_ := Aside0.mk (blk_below (g := gb176) (o := .cells #[.bool false, .slice Ao13 t171.length co13, .string t174] 55 (0, 0)) (by (with_reducible repeat (first | refine blk_drewN ?_ _ | refine blk_drew ?_ | refine blk_alloc ?_ _)); exact BK176.out) hb); have n6_ := Aside0.mk (blk_below (g := gb183) (o := .cells #[.bool true, .slice Ao18 t178.length co18, .string t181] 55 (0, 0)) (by (with_reducible repeat (first | refine blk_drewN ?_ _ | refine blk_drew ?_ | refine blk_alloc ?_ _)); exact BK183.out) hb); have n7_ := Aside0.mk (below_step (by repeat (first | (with_reducible first | exact HB.out | apply below_alloc | apply pw_below_drewN | apply below_drew1 | refine below_set ?_ GE176.out | refine below_set ?_ GE183.out) | exact HB.out)) hb); clear HO169; clear HO173; clear HO180; clear HO187; clear BK176; clear BK183; clear HB; have HO169 := n0_; have HO173 := n1_; have HO180 := n2_; have HO187 := n3_; have HO194 := n4_; have BK176 := n5_; have BK183 := n6_; have HB := n7_; clear n0_ n1_ n2_ n3_ n4_ n5_ n6_ n7_; clear hb ho59; obtain ⟨Ao60, co60, eo60⟩ := Kd.R_slice HO187.out; subst eo60; obtain ⟨Ao61, co61, eo61⟩ := Kd.R_slice HO194.out; subst eo61) | (go_at_call 20; (with_reducible refine (tickinglaw06_types.calls k _ _ t184 _ _ y192 false _ ?side1 ?side2 ?side3 ?side4 A30.out).mono ?_); (case side1 => repeat (first | exact (Kd.R_reads' HO187.out).2.2 | (with_reducible refine Kd.C_alloc ?_ _) | (with_reducible refine Kd.C_drewN ?_ _) | (with_reducible refine Kd.C_drew ?_))); (case side2 => exact (Kd.R_reads' HO187.out).2.1); (case side3 => repeat (first | exact (Kd.R_reads' HO194.out).2.2 | (with_reducible refine Kd.C_alloc ?_ _) | (with_reducible refine Kd.C_drewN ?_ _) | (with_reducible refine Kd.C_drew ?_))); (case side4 => exact (Kd.R_reads' HO194.out).2.1); rintro e w' ⟨rfl, ⟨nd, rfl⟩⟩))
   go_meet
   exact ⟨_, (true), (by first | rfl | (simp; done) | (simp [*]; done)), H', ⟨by first | omega | exact Nat.le_refl _⟩, ⟨by (with_reducible repeat (first | apply Kd.R_alloc | apply Kd.R_drewN | apply Kd.R_drew)); exact Kd.R_mono HO173.out (fun _ hk => hk.2)⟩, ⟨by (with_reducible repeat (first | apply Kd.R_alloc | apply Kd.R_drewN | apply Kd.R_drew)); exact Kd.R_mono HO180.out (fun _ hk => hk.2)⟩, ⟨by (with_reducible repeat (first | refine blk_drewN ?_ _ | refine blk_drew ?_ | refine blk_alloc ?_ _)); exact BK176.out⟩, ⟨by (with_reducible repeat (first | refine blk_drewN ?_ _ | refine blk_drew ?_ | refine blk_alloc ?_ _)); exact BK183.out⟩, ⟨by repeat (first | (with_reducible first | exact HB.out | apply below_alloc | apply pw_below_drewN | apply below_drew1 | refine below_set ?_ GE176.out | refine below_set ?_ GE183.out) | exact HB.out)⟩⟩
  subst c31
  have H1 : (if t189 = 0 then (if t188 = 1 then (tickinglaw06_awake.j0 k (t191 != 6)) else (tickinglaw06_awake.j0 k true)) else (tickinglaw06_awake.j0 k true)) = some r := by rw [if_pos rfl] at H; exact H
  clear H
  have H := H1
  clear H1
  by_cases c32 : t189 = 0
  rotate_left
  ·rw [if_neg c32] at H
   have c32b0 : (t189 == 0) = false := beq_eq_false_iff_ne.mpr c32
   have c32b1 : (t189 != 0) = true := bne_iff_ne.mpr c32
   have H' := Aside0.mk H
   clear H
   have hnb48 := NB176_183.out
   have hnc48 := NB183_176.out
   have hcz49_0 : w21.cell? ⟨gb176, 0, none⟩ = some (.bool false) := (blk_cell BK176.out 0).trans rfl
   have hcz49_1 : w21.cell? ⟨gb176, 1, none⟩ = some (.slice Ao13 t171.length co13) := (blk_cell BK176.out 1).trans rfl
   have hcz49_2 : w21.cell? ⟨gb176, 2, none⟩ = some (.string t174) := (blk_cell BK176.out 2).trans rfl
   have hfz49_0 := blk_frozen BK176.out 0
   have hfz49_1 := blk_frozen BK176.out 1
   have hfz49_2 := blk_frozen BK176.out 2
   have hcz50_0 : w21.cell? ⟨gb183, 0, none⟩ = some (.bool true) := (blk_cell BK183.out 0).trans rfl
   have hcz50_1 : w21.cell? ⟨gb183, 1, none⟩ = some (.slice Ao18 t178.length co18) := (blk_cell BK183.out 1).trans rfl
   have hcz50_2 : w21.cell? ⟨gb183, 2, none⟩ = some (.string t181) := (blk_cell BK183.out 2).trans rfl
   have hfz50_0 := blk_frozen BK183.out 0
   have hfz50_1 := blk_frozen BK183.out 1
   have hfz50_2 := blk_frozen BK183.out 2
   go_wp2_with (first | ((with_reducible refine gate_dst (N := 72) rfl ?_); (try (refine gate_guard (by rfl) ?_; dsimp only)); refine Kd.R_lit k39 _ 39 ?hg (N := 72) ?hd (xs := ([(⟨4, 1, 0⟩ : S39), (⟨2, 0, 0⟩ : S39)] : List (S39))) (inner := [.int .i64 4, .int .i64 1, .int .i64 0, .int .i64 2, .int .i64 0, .int .i64 0]) (ok := fun _ => True) (okp := fun _ => True) ?hr ?hp (fun _ hk => hk) trivial (Below.refl _ _) (Nat.le_refl _) (by simp) ?_; (case hd => rfl); (case hg => rfl); (case hr => first | (go_simp; done) | (go_simp; rfl)); (case hp => exact (Reps.c3 (show Kd.M k39 _ _ _ (⟨4, 1, 0⟩ : S39) [.int .i64 4, .int .i64 1, .int .i64 0] from (k39_mkM _ _ _ (⟨4, 1, 0⟩ : S39) )) (Reps.c3 (show Kd.M k39 _ _ _ (⟨2, 0, 0⟩ : S39) [.int .i64 2, .int .i64 0, .int .i64 0] from (k39_mkM _ _ _ (⟨2, 0, 0⟩ : S39) )) (Reps.none _ _)))); intro v193 w51 ho52 hb hg_ hnew_; clear hg_ hnew_; (first | rw [← Ny192.out] at ho52 | (simp only [Int.reduceToNat] at ho52; rw [← Ny192.out] at ho52)); have n0_ := Aside0.mk (Kd.R_elder' (by (with_reducible repeat (first | apply Kd.R_alloc | apply Kd.R_drewN | apply Kd.R_drew)); exact HO169.out) (Kd.R_base ho52) hb); have n1_ := Aside0.mk (Kd.R_below (by (with_reducible repeat (first | apply Kd.R_alloc | apply Kd.R_drewN | apply Kd.R_drew)); exact HO173.out) hb); have n2_ := Aside0.mk (Kd.R_below (by (with_reducible repeat (first | apply Kd.R_alloc | apply Kd.R_drewN | apply Kd.R_drew)); exact HO180.out) hb); have n3_ := Aside0.mk (Kd.R_elder' (by (with_reducible repeat (first | apply Kd.R_alloc | apply Kd.R_drewN | apply Kd.R_drew)); exact HO187.out) (Kd.R_base ho52) hb); have n4_ := Aside0.mk (Kd.R_lower (Kd.R_new' (Kd.R_new' ho52 (Kd.R_lt (by (with_reducible repeat (first | apply Kd.R_alloc | apply Kd.R_drewN | apply Kd.R_drew)); exact HO169.out))) (Kd.R_lt (by (with_reducible repeat (first | apply Kd.R_alloc | apply Kd.R_drewN | apply Kd.R_drew)); exact HO187.out))) (below_size (by repeat (first | (with_reducible first | exact HB.out | apply below_alloc | apply pw_below_drewN | apply below_drew1 | refine below_set ?_ GE176.out | refine below_set ?_ GE183.out) | exact HB.out)))); have n5_ := Aside0.mk (blk_below (g := gb176) (o := .cells #[.bool false, .slice Ao13 t171.length co13, .string t174] 55 (0, 0)) (by (with_reducible repeat (first | refine blk_drewN ?_ _ | refine blk_drew ?_ | refine blk_alloc ?_ _)); exact BK176.out) hb); have n6_ := Aside0.mk (blk_below (g := gb183) (o := .cells #[.bool true, .slice Ao18 t178.length co18, .string t181] 55 (0, 0)) (by (with_reducible repeat (first | refine blk_drewN ?_ _ | refine blk_drew ?_ | refine blk_alloc ?_ _)); exact BK183.out) hb); have n7_ := Aside0.mk (below_step (by repeat (first | (with_reducible first | exact HB.out | apply below_alloc | apply pw_below_drewN | apply below_drew1 | refine below_set ?_ GE176.out | refine below_set ?_ GE183.out) | exact HB.out)) hb); clear HO169; clear HO173; clear HO180; clear HO187; clear BK176; clear BK183; clear HB; have HO169 := n0_; have HO173 := n1_; have HO180 := n2_; have HO187 := n3_; have HO194 := n4_; have BK176 := n5_; have BK183 := n6_; have HB := n7_; clear n0_ n1_ n2_ n3_ n4_ n5_ n6_ n7_; clear hb ho52; obtain ⟨Ao53, co53, eo53⟩ := Kd.R_slice HO187.out; subst eo53; obtain ⟨Ao54, co54, eo54⟩ := Kd.R_slice HO194.out; subst eo54) | (go_at_call 20; (with_reducible refine (tickinglaw06_types.calls k _ _ t184 _ _ y192 true _ ?side1 ?side2 ?side3 ?side4 A30.out).mono ?_); (case side1 => repeat (first | exact (Kd.R_reads' HO187.out).2.2 | (with_reducible refine Kd.C_alloc ?_ _) | (with_reducible refine Kd.C_drewN ?_ _) | (with_reducible refine Kd.C_drew ?_))); (case side2 => exact (Kd.R_reads' HO187.out).2.1); (case side3 => repeat (first | exact (Kd.R_reads' HO194.out).2.2 | (with_reducible refine Kd.C_alloc ?_ _) | (with_reducible refine Kd.C_drewN ?_ _) | (with_reducible refine Kd.C_drew ?_))); (case side4 => exact (Kd.R_reads' HO194.out).2.1); rintro e w' ⟨rfl, ⟨nd, rfl⟩⟩))
   go_meet
   exact ⟨_, (true), (by first | rfl | (simp; done) | (simp [*]; done)), H', ⟨by first | omega | exact Nat.le_refl _⟩, ⟨by (with_reducible repeat (first | apply Kd.R_alloc | apply Kd.R_drewN | apply Kd.R_drew)); exact Kd.R_mono HO173.out (fun _ hk => hk.2)⟩, ⟨by (with_reducible repeat (first | apply Kd.R_alloc | apply Kd.R_drewN | apply Kd.R_drew)); exact Kd.R_mono HO180.out (fun _ hk => hk.2)⟩, ⟨by (with_reducible repeat (first | refine blk_drewN ?_ _ | refine blk_drew ?_ | refine blk_alloc ?_ _)); exact BK176.out⟩, ⟨by (with_reducible repeat (first | refine blk_drewN ?_ _ | refine blk_drew ?_ | refine blk_alloc ?_ _)); exact BK183.out⟩, ⟨by repeat (first | (with_reducible first | exact HB.out | apply below_alloc | apply pw_below_drewN | apply below_drew1 | refine below_set ?_ GE176.out | refine below_set ?_ GE183.out) | exact HB.out)⟩⟩
  rw [if_pos c32] at H
  have c32b0 : (t189 == 0) = true := beq_iff_eq.mpr c32
  have c32b1 : (t189 != 0) = false := bne_eq_false_iff_eq.mpr c32
  clear c32
  by_cases c33 : t188 = 1
  rotate_left
  ·rw [if_neg c33] at H
   have c33b0 : (t188 == 1) = false := beq_eq_false_iff_ne.mpr c33
   have c33b1 : (t188 != 1) = true := bne_iff_ne.mpr c33
   have H' := Aside0.mk H
   clear H
   have hnb41 := NB176_183.out
   have hnc41 := NB183_176.out
   have hcz42_0 : w21.cell? ⟨gb176, 0, none⟩ = some (.bool false) := (blk_cell BK176.out 0).trans rfl
   have hcz42_1 : w21.cell? ⟨gb176, 1, none⟩ = some (.slice Ao13 t171.length co13) := (blk_cell BK176.out 1).trans rfl
   have hcz42_2 : w21.cell? ⟨gb176, 2, none⟩ = some (.string t174) := (blk_cell BK176.out 2).trans rfl
   have hfz42_0 := blk_frozen BK176.out 0
   have hfz42_1 := blk_frozen BK176.out 1
   have hfz42_2 := blk_frozen BK176.out 2
   have hcz43_0 : w21.cell? ⟨gb183, 0, none⟩ = some (.bool true) := (blk_cell BK183.out 0).trans rfl
   have hcz43_1 : w21.cell? ⟨gb183, 1, none⟩ = some (.slice Ao18 t178.length co18) := (blk_cell BK183.out 1).trans rfl
   have hcz43_2 : w21.cell? ⟨gb183, 2, none⟩ = some (.string t181) := (blk_cell BK183.out 2).trans rfl
   have hfz43_0 := blk_frozen BK183.out 0
   have hfz43_1 := blk_frozen BK183.out 1
   have hfz43_2 := blk_frozen BK183.out 2
   go_wp2_with (first | ((with_reducible refine gate_dst (N := 72) rfl ?_); (try (refine gate_guard (by rfl) ?_; dsimp only)); refine Kd.R_lit k39 _ 39 ?hg (N := 72) ?hd (xs := ([(⟨4, 1, 0⟩ : S39), (⟨2, 0, 0⟩ : S39)] : List (S39))) (inner := [.int .i64 4, .int .i64 1, .int .i64 0, .int .i64 2, .int .i64 0, .int .i64 0]) (ok := fun _ => True) (okp := fun _ => True) ?hr ?hp (fun _ hk => hk) trivial (Below.refl _ _) (Nat.le_refl _) (by simp) ?_; (case hd => rfl); (case hg => rfl); (case hr => first | (go_simp; done) | (go_simp; rfl)); (case hp => exact (Reps.c3 (show Kd.M k39 _ _ _ (⟨4, 1, 0⟩ : S39) [.int .i64 4, .int .i64 1, .int .i64 0] from (k39_mkM _ _ _ (⟨4, 1, 0⟩ : S39) )) (Reps.c3 (show Kd.M k39 _ _ _ (⟨2, 0, 0⟩ : S39) [.int .i64 2, .int .i64 0, .int .i64 0] from (k39_mkM _ _ _ (⟨2, 0, 0⟩ : S39) )) (Reps.none _ _)))); intro v193 w44 ho45 hb hg_ hnew_; clear hg_ hnew_; (first | rw [← Ny192.out] at ho45 | (simp only [Int.reduceToNat] at ho45; rw [← Ny192.out] at ho45)); have n0_ := Aside0.mk (Kd.R_elder' (by (with_reducible repeat (first | apply Kd.R_alloc | apply Kd.R_drewN | apply Kd.R_drew)); exact HO169.out) (Kd.R_base ho45) hb); have n1_ := Aside0.mk (Kd.R_below (by (with_reducible repeat (first | apply Kd.R_alloc | apply Kd.R_drewN | apply Kd.R_drew)); exact HO173.out) hb); have n2_ := Aside0.mk (Kd.R_below (by (with_reducible repeat (first | apply Kd.R_alloc | apply Kd.R_drewN | apply Kd.R_drew)); exact HO180.out) hb); have n3_ := Aside0.mk (Kd.R_elder' (by (with_reducible repeat (first | apply Kd.R_alloc | apply Kd.R_drewN | apply Kd.R_drew)); exact HO187.out) (Kd.R_base ho45) hb); have n4_ := Aside0.mk (Kd.R_lower (Kd.R_new' (Kd.R_new' ho45 (Kd.R_lt (by (with_reducible repeat (first | apply Kd.R_alloc | apply Kd.R_drewN | apply Kd.R_drew)); exact HO169.out))) (Kd.R_lt (by (with_reducible repeat (first | apply Kd.R_alloc | apply Kd.R_drewN | apply Kd.R_drew)); exact HO187.out))) (below_size (by repeat (first | (with_reducible first | exact HB.out | apply below_alloc | apply pw_below_drewN | apply below_drew1 | refine below_set ?_ GE176.out | refine below_set ?_ GE183.out) | exact HB.out)))); have n5_ := Aside0.mk (blk_below (g := gb176) (o := .cells #[.bool false, .slice Ao13 t171.length co13, .string t174] 55 (0, 0)) (by (with_reducible repeat (first | refine blk_drewN ?_ _ | refine blk_drew ?_ | refine blk_alloc ?_ _)); exact BK176.out) hb); have n6_ := Aside0.mk (blk_below (g := gb183) (o := .cells #[.bool true, .slice Ao18 t178.length co18, .string t181] 55 (0, 0)) (by (with_reducible repeat (first | refine blk_drewN ?_ _ | refine blk_drew ?_ | refine blk_alloc ?_ _)); exact BK183.out) hb); have n7_ := Aside0.mk (below_step (by repeat (first | (with_reducible first | exact HB.out | apply below_alloc | apply pw_below_drewN | apply below_drew1 | refine below_set ?_ GE176.out | refine below_set ?_ GE183.out) | exact HB.out)) hb); clear HO169; clear HO173; clear HO180; clear HO187; clear BK176; clear BK183; clear HB; have HO169 := n0_; have HO173 := n1_; have HO180 := n2_; have HO187 := n3_; have HO194 := n4_; have BK176 := n5_; have BK183 := n6_; have HB := n7_; clear n0_ n1_ n2_ n3_ n4_ n5_ n6_ n7_; clear hb ho45; obtain ⟨Ao46, co46, eo46⟩ := Kd.R_slice HO187.out; subst eo46; obtain ⟨Ao47, co47, eo47⟩ := Kd.R_slice HO194.out; subst eo47) | (go_at_call 20; (with_reducible refine (tickinglaw06_types.calls k _ _ t184 _ _ y192 true _ ?side1 ?side2 ?side3 ?side4 A30.out).mono ?_); (case side1 => repeat (first | exact (Kd.R_reads' HO187.out).2.2 | (with_reducible refine Kd.C_alloc ?_ _) | (with_reducible refine Kd.C_drewN ?_ _) | (with_reducible refine Kd.C_drew ?_))); (case side2 => exact (Kd.R_reads' HO187.out).2.1); (case side3 => repeat (first | exact (Kd.R_reads' HO194.out).2.2 | (with_reducible refine Kd.C_alloc ?_ _) | (with_reducible refine Kd.C_drewN ?_ _) | (with_reducible refine Kd.C_drew ?_))); (case side4 => exact (Kd.R_reads' HO194.out).2.1); rintro e w' ⟨rfl, ⟨nd, rfl⟩⟩))
   go_meet
   exact ⟨_, (true), (by first | rfl | (simp; done) | (simp [*]; done)), H', ⟨by first | omega | exact Nat.le_refl _⟩, ⟨by (with_reducible repeat (first | apply Kd.R_alloc | apply Kd.R_drewN | apply Kd.R_drew)); exact Kd.R_mono HO173.out (fun _ hk => hk.2)⟩, ⟨by (with_reducible repeat (first | apply Kd.R_alloc | apply Kd.R_drewN | apply Kd.R_drew)); exact Kd.R_mono HO180.out (fun _ hk => hk.2)⟩, ⟨by (with_reducible repeat (first | refine blk_drewN ?_ _ | refine blk_drew ?_ | refine blk_alloc ?_ _)); exact BK176.out⟩, ⟨by (with_reducible repeat (first | refine blk_drewN ?_ _ | refine blk_drew ?_ | refine blk_alloc ?_ _)); exact BK183.out⟩, ⟨by repeat (first | (with_reducible first | exact HB.out | apply below_alloc | apply pw_below_drewN | apply below_drew1 | refine below_set ?_ GE176.out | refine below_set ?_ GE183.out) | exact HB.out)⟩⟩
  rw [if_pos c33] at H
  have c33b0 : (t188 == 1) = true := beq_iff_eq.mpr c33
  have c33b1 : (t188 != 1) = false := bne_eq_false_iff_eq.mpr c33
  clear c33
  have H' := Aside0.mk H
  clear H
  have hnb34 := NB176_183.out
  have hnc34 := NB183_176.out
  have hcz35_0 : w21.cell? ⟨gb176, 0, none⟩ = some (.bool false) := (blk_cell BK176.out 0).trans rfl
  have hcz35_1 : w21.cell? ⟨gb176, 1, none⟩ = some (.slice Ao13 t171.length co13) := (blk_cell BK176.out 1).trans rfl
  have hcz35_2 : w21.cell? ⟨gb176, 2, none⟩ = some (.string t174) := (blk_cell BK176.out 2).trans rfl
  have hfz35_0 := blk_frozen BK176.out 0
  have hfz35_1 := blk_frozen BK176.out 1
  have hfz35_2 := blk_frozen BK176.out 2
  have hcz36_0 : w21.cell? ⟨gb183, 0, none⟩ = some (.bool true) := (blk_cell BK183.out 0).trans rfl
  have hcz36_1 : w21.cell? ⟨gb183, 1, none⟩ = some (.slice Ao18 t178.length co18) := (blk_cell BK183.out 1).trans rfl
  have hcz36_2 : w21.cell? ⟨gb183, 2, none⟩ = some (.string t181) := (blk_cell BK183.out 2).trans rfl
  have hfz36_0 := blk_frozen BK183.out 0
  have hfz36_1 := blk_frozen BK183.out 1
  have hfz36_2 := blk_frozen BK183.out 2
  go_wp2_with (first | ((with_reducible refine gate_dst (N := 72) rfl ?_); (try (refine gate_guard (by rfl) ?_; dsimp only)); refine Kd.R_lit k39 _ 39 ?hg (N := 72) ?hd (xs := ([(⟨4, 1, 0⟩ : S39), (⟨2, 0, 0⟩ : S39)] : List (S39))) (inner := [.int .i64 4, .int .i64 1, .int .i64 0, .int .i64 2, .int .i64 0, .int .i64 0]) (ok := fun _ => True) (okp := fun _ => True) ?hr ?hp (fun _ hk => hk) trivial (Below.refl _ _) (Nat.le_refl _) (by simp) ?_; (case hd => rfl); (case hg => rfl); (case hr => first | (go_simp; done) | (go_simp; rfl)); (case hp => exact (Reps.c3 (show Kd.M k39 _ _ _ (⟨4, 1, 0⟩ : S39) [.int .i64 4, .int .i64 1, .int .i64 0] from (k39_mkM _ _ _ (⟨4, 1, 0⟩ : S39) )) (Reps.c3 (show Kd.M k39 _ _ _ (⟨2, 0, 0⟩ : S39) [.int .i64 2, .int .i64 0, .int .i64 0] from (k39_mkM _ _ _ (⟨2, 0, 0⟩ : S39) )) (Reps.none _ _)))); intro v193 w37 ho38 hb hg_ hnew_; clear hg_ hnew_; (first | rw [← Ny192.out] at ho38 | (simp only [Int.reduceToNat] at ho38; rw [← Ny192.out] at ho38)); have n0_ := Aside0.mk (Kd.R_elder' (by (with_reducible repeat (first | apply Kd.R_alloc | apply Kd.R_drewN | apply Kd.R_drew)); exact HO169.out) (Kd.R_base ho38) hb); have n1_ := Aside0.mk (Kd.R_below (by (with_reducible repeat (first | apply Kd.R_alloc | apply Kd.R_drewN | apply Kd.R_drew)); exact HO173.out) hb); have n2_ := Aside0.mk (Kd.R_below (by (with_reducible repeat (first | apply Kd.R_alloc | apply Kd.R_drewN | apply Kd.R_drew)); exact HO180.out) hb); have n3_ := Aside0.mk (Kd.R_elder' (by (with_reducible repeat (first | apply Kd.R_alloc | apply Kd.R_drewN | apply Kd.R_drew)); exact HO187.out) (Kd.R_base ho38) hb); have n4_ := Aside0.mk (Kd.R_lower (Kd.R_new' (Kd.R_new' ho38 (Kd.R_lt (by (with_reducible repeat (first | apply Kd.R_alloc | apply Kd.R_drewN | apply Kd.R_drew)); exact HO169.out))) (Kd.R_lt (by (with_reducible repeat (first | apply Kd.R_alloc | apply Kd.R_drewN | apply Kd.R_drew)); exact HO187.out))) (below_size (by repeat (first | (with_reducible first | exact HB.out | apply below_alloc | apply pw_below_drewN | apply below_drew1 | refine below_set ?_ GE176.out | refine below_set ?_ GE183.out) | exact HB.out)))); have n5_ := Aside0.mk (blk_below (g := gb176) (o := .cells #[.bool false, .slice Ao13 t171.length co13, .string t174] 55 (0, 0)) (by (with_reducible repeat (first | refine blk_drewN ?_ _ | refine blk_drew ?_ | refine blk_alloc ?_ _)); exact BK176.out) hb); have n6_ := Aside0.mk (blk_below (g := gb183) (o := .cells #[.bool true, .slice Ao18 t178.length co18, .string t181] 55 (0, 0)) (by (with_reducible repeat (first | refine blk_drewN ?_ _ | refine blk_drew ?_ | refine blk_alloc ?_ _)); exact BK183.out) hb); have n7_ := Aside0.mk (below_step (by repeat (first | (with_reducible first | exact HB.out | apply below_alloc | apply pw_below_drewN | apply below_drew1 | refine below_set ?_ GE176.out | refine below_set ?_ GE183.out) | exact HB.out)) hb); clear HO169; clear HO173; clear HO180; clear HO187; clear BK176; clear BK183; clear HB; have HO169 := n0_; have HO173 := n1_; have HO180 := n2_; have HO187 := n3_; have HO194 := n4_; have BK176 := n5_; have BK183 := n6_; have HB := n7_; clear n0_ n1_ n2_ n3_ n4_ n5_ n6_ n7_; clear hb ho38; obtain ⟨Ao39, co39, eo39⟩ := Kd.R_slice HO187.out; subst eo39; obtain ⟨Ao40, co40, eo40⟩ := Kd.R_slice HO194.out; subst eo40) | (go_at_call 20; (with_reducible refine (tickinglaw06_types.calls k _ _ t184 _ _ y192 true _ ?side1 ?side2 ?side3 ?side4 A30.out).mono ?_); (case side1 => repeat (first | exact (Kd.R_reads' HO187.out).2.2 | (with_reducible refine Kd.C_alloc ?_ _) | (with_reducible refine Kd.C_drewN ?_ _) | (with_reducible refine Kd.C_drew ?_))); (case side2 => exact (Kd.R_reads' HO187.out).2.1); (case side3 => repeat (first | exact (Kd.R_reads' HO194.out).2.2 | (with_reducible refine Kd.C_alloc ?_ _) | (with_reducible refine Kd.C_drewN ?_ _) | (with_reducible refine Kd.C_drew ?_))); (case side4 => exact (Kd.R_reads' HO194.out).2.1); rintro e w' ⟨rfl, ⟨nd, rfl⟩⟩))
  go_meet
  exact ⟨_, ((t191 != 6)), (by first | rfl | (simp; done) | (simp [*]; done)), H', ⟨by first | omega | exact Nat.le_refl _⟩, ⟨by (with_reducible repeat (first | apply Kd.R_alloc | apply Kd.R_drewN | apply Kd.R_drew)); exact Kd.R_mono HO173.out (fun _ hk => hk.2)⟩, ⟨by (with_reducible repeat (first | apply Kd.R_alloc | apply Kd.R_drewN | apply Kd.R_drew)); exact Kd.R_mono HO180.out (fun _ hk => hk.2)⟩, ⟨by (with_reducible repeat (first | refine blk_drewN ?_ _ | refine blk_drew ?_ | refine blk_alloc ?_ _)); exact BK176.out⟩, ⟨by (with_reducible repeat (first | refine blk_drewN ?_ _ | refine blk_drew ?_ | refine blk_alloc ?_ _)); exact BK183.out⟩, ⟨by repeat (first | (with_reducible first | exact HB.out | apply below_alloc | apply pw_below_drewN | apply below_drew1 | refine below_set ?_ GE176.out | refine below_set ?_ GE183.out) | exact HB.out)⟩⟩
 case rest =>
  clear HC6
  try clear c1
  try clear c2
  try clear p2
  try clear c3
  try clear c4
  try clear c5
  try clear c6
  try clear c7
  try clear c16
  try clear c17
  try clear c19
  try clear c22
  try clear c22b0
  try clear c22b1
  try clear c23
  try clear c24
  try clear c26
  try clear c26b0
  try clear c26b1
  try clear c27
  try clear c27b0
  try clear c27b1
  try clear c28
  try clear c29
  try clear c29b0
  try clear c29b1
  try clear c31
  try clear c32
  try clear c32b0
  try clear c32b1
  try clear c33
  try clear c33b0
  try clear c33b1
  try clear c34
  try clear c41
  try clear c48
  try clear c55
  try clear c62
  try clear c65
  try clear c68
  try clear c70
  try clear hcz12_0
  try clear hcz12_1
  try clear hcz12_2
  try clear hcz17_0
  try clear hcz17_1
  try clear hcz17_2
  try clear hcz25_0
  try clear hcz25_1
  try clear hcz25_2
  try clear hcz35_0
  try clear hcz35_1
  try clear hcz35_2
  try clear hcz36_0
  try clear hcz36_1
  try clear hcz36_2
  try clear hcz42_0
  try clear hcz42_1
  try clear hcz42_2
  try clear hcz43_0
  try clear hcz43_1
  try clear hcz43_2
  try clear hcz49_0
  try clear hcz49_1
  try clear hcz49_2
  try clear hcz50_0
  try clear hcz50_1
  try clear hcz50_2
  try clear hcz56_0
  try clear hcz56_1
  try clear hcz56_2
  try clear hcz57_0
  try clear hcz57_1
  try clear hcz57_2
  try clear hcz63_0
  try clear hcz63_1
  try clear hcz63_2
  try clear hcz64_0
  try clear hcz64_1
  try clear hcz64_2
  try clear hcz66_0
  try clear hcz66_1
  try clear hcz66_2
  try clear hcz67_0
  try clear hcz67_1
  try clear hcz67_2
  try clear hcz69_0
  try clear hcz69_1
  try clear hcz69_2
  try clear hcz71_0
  try clear hcz71_1
  try clear hcz71_2
  try clear hfz12_0
  try clear hfz12_1
  try clear hfz12_2
  try clear hfz17_0
  try clear hfz17_1
  try clear hfz17_2
  try clear hfz25_0
  try clear hfz25_1
  try clear hfz25_2
  try clear hfz35_0
  try clear hfz35_1
  try clear hfz35_2
  try clear hfz36_0
  try clear hfz36_1
  try clear hfz36_2
  try clear hfz42_0
  try clear hfz42_1
  try clear hfz42_2
  try clear hfz43_0
  try clear hfz43_1
  try clear hfz43_2
  try clear hfz49_0
  try clear hfz49_1
  try clear hfz49_2
  try clear hfz50_0
  try clear hfz50_1
  try clear hfz50_2
  try clear hfz56_0
  try clear hfz56_1
  try clear hfz56_2
  try clear hfz57_0
  try clear hfz57_1
  try clear hfz57_2
  try clear hfz63_0
  try clear hfz63_1
  try clear hfz63_2
  try clear hfz64_0
  try clear hfz64_1
  try clear hfz64_2
  try clear hfz66_0
  try clear hfz66_1
  try clear hfz66_2
  try clear hfz67_0
  try clear hfz67_1
  try clear hfz67_2
  try clear hfz69_0
  try clear hfz69_1
  try clear hfz69_2
  try clear hfz71_0
  try clear hfz71_1
  try clear hfz71_2
  obtain ⟨kq, x87_5, rfl, HA, HJ5, HO_177001, HO_184001, BK176, BK183, HB⟩ := hcut
  cases kq with
  | zero => exact absurd HA.out (by simp [tickinglaw06_awake.j0])
  | succ kj5 =>
   have H := HA.out
   clear HA
   simp only [tickinglaw06_awake.j0] at H
   by_cases c72 : x87_5 = true
   ·subst c72
    have H1 : (some false) = some r := by rw [if_pos rfl] at H; exact H
    clear H
    have H := H1
    clear H1
    obtain rfl := Option.some.inj H
    go_wp2
    go_ret
    exact ⟨by first | rfl | (simp [errW_none, errW_some] <;> rfl) | (simp [*, errW_none, errW_some] <;> rfl), by repeat (first | (with_reducible first | exact HB.out | apply below_alloc | apply pw_below_drewN | apply below_drew1 | refine below_set ?_ GE176.out | refine below_set ?_ GE183.out) | exact HB.out)⟩
   replace c72 := Bool.eq_false_iff.mpr c72
   subst c72
   have H1 : (some true) = some r := by rw [if_neg (show ¬ (false = true) by decide)] at H; exact H
   clear H
   have H := H1
   clear H1
   obtain rfl := Option.some.inj H
   go_wp2
   go_ret
   exact ⟨by first | rfl | (simp [errW_none, errW_some] <;> rfl) | (simp [*, errW_none, errW_some] <;> rfl), by repeat (first | (with_reducible first | exact HB.out | apply below_alloc | apply pw_below_drewN | apply below_drew1 | refine below_set ?_ GE176.out | refine below_set ?_ GE183.out) | exact HB.out)⟩

def tickingref06_has.l0 : Nat → List (S23) → Int → Int → Int → Option (Bool)
 | 0, _, _, _, _ => none
 | k + 1, x0, x1, x2, x7 => if x7 < (x0.length : Int) then (if 0 ≤ x7 then (if ((rd_T23 x0 x7).f0) = x1 then (if ((rd_T23 x0 x7).f1) = x2 then (some true) else (tickingref06_has.l0 k x0 x1 x2 (wrap64 (x7 + 1)))) else (tickingref06_has.l0 k x0 x1 x2 (wrap64 (x7 + 1)))) else (none)) else (some false)
def tickingref06_has.f (k : Nat) (l0 : List (S23)) (a1 : Int) (a2 : Int) : Option (Bool) := tickingref06_has.l0 k l0 a1 a2 0
set_option maxHeartbeats 8000000 in
set_option maxRecDepth 100000 in
theorem tickingref06_has.calls (k : Nat) (A0 : Option Addr) (c0 : Nat) (l0 : List (S23)) (a1 : Int) (a2 : Int) (r : Bool) (w : World) (hr0 : Kd.C k23 w A0 l0.length l0) (hc0 : l0.length ≤ c0) (h : tickingref06_has.f k l0 a1 a2 = some r) :
  Calls Try.prog 53 #[.slice A0 l0.length c0, .int .i64 a1, .int .i64 a2] w fun e w' => e = .returned (.bool r) ∧ Drawn0 w w' := by
 have HR0 := Aside0.mk hr0
 have HC0 := Aside0.mk hc0
 clear hr0 hc0
 have H : (tickingref06_has.l0 k l0 a1 a2 0) = some r := h
 clear h
 have H' := Aside0.mk H
 clear H
 go_enter Try.func53, Try.ntmps53
 go_wp2
 go_loopg [7] k (fun kq v7 w' => ∃ (x7_1 : Int), v7 = .int .i64 x7_1 ∧ Aside0 (tickingref06_has.l0 kq l0 a1 a2 x7_1 = some r) ∧ Aside0 (kq ≤ k) ∧ Drawn0 w w')
 case atStart => exact ⟨(0), (by first | rfl | (simp; done) | (simp [*]; done)), H', ⟨Nat.le_refl _⟩, by repeat (first | exact Drawn0.refl _ | apply Drawn0.step)⟩
 clear H'
 try clear p2
 obtain ⟨x7_1, rfl, HA, HK1, ⟨m1, rfl⟩⟩ := hrel
 cases gk with
 | zero => exact absurd HA.out (by simp [tickingref06_has.l0])
 | succ k1 =>
  have H := HA.out
  clear HA
  simp only [tickingref06_has.l0] at H
  by_cases c4 : x7_1 < (l0.length : Int)
  rotate_left
  ·rw [if_neg c4] at H
   have c4b0 : decide (x7_1 < (l0.length : Int)) = false := decide_eq_false c4
   clear c4
   obtain rfl := Option.some.inj H
   go_wp2
   go_ret
   exact ⟨by first | rfl | (simp; done) | (simp [*]; done), by repeat (first | exact Drawn0.refl _ | apply Drawn0.step)⟩
  rw [if_pos c4] at H
  have c4b0 : decide (x7_1 < (l0.length : Int)) = true := decide_eq_true c4
  clear c4
  by_cases c5 : 0 ≤ x7_1
  rotate_left
  ·rw [if_neg c5] at H
   exact absurd H (by simp)
  rw [if_pos c5] at H
  have c5b0 : decide (0 ≤ x7_1) = true := decide_eq_true c5
  clear c5
  by_cases c6 : ((rd_T23 l0 x7_1).f0) = a1
  rotate_left
  ·rw [if_neg c6] at H
   have c6b0 : (((rd_T23 l0 x7_1).f0) == a1) = false := beq_eq_false_iff_ne.mpr c6
   have c6b1 : (((rd_T23 l0 x7_1).f0) != a1) = true := bne_iff_ne.mpr c6
   have H' := Aside0.mk H
   clear H
   have p452 : 0 ≤ (x7_1 : Int) := of_decide_eq_true (by first | (with_reducible assumption) | assumption)
   have q452 : x7_1 < (l0.length : Int) := of_decide_eq_true (by first | (with_reducible assumption) | assumption)
   obtain ⟨ad452, e452, hx452_0, hx452_1⟩ := at_T23 HR0.out x7_1 p452 q452
   cases e452
   replace p452 := eq_true p452
   replace q452 := eq_true q452
   go_wp2
   go_roundg k1
   case measure => have := HK1.out; omega
   exact ⟨(wrap64 (x7_1 + 1)), (by first | rfl | (simp; done) | (simp [*]; done)), H', ⟨by have := HK1.out; omega⟩, by repeat (first | exact Drawn0.refl _ | apply Drawn0.step)⟩
  rw [if_pos c6] at H
  have c6b0 : (((rd_T23 l0 x7_1).f0) == a1) = true := beq_iff_eq.mpr c6
  have c6b1 : (((rd_T23 l0 x7_1).f0) != a1) = false := bne_eq_false_iff_eq.mpr c6
  clear c6
  by_cases c7 : ((rd_T23 l0 x7_1).f1) = a2
  ·rw [if_pos c7] at H
   have c7b0 : (((rd_T23 l0 x7_1).f1) == a2) = true := beq_iff_eq.mpr c7
   have c7b1 : (((rd_T23 l0 x7_1).f1) != a2) = false := bne_eq_false_iff_eq.mpr c7
   clear c7
   obtain rfl := Option.some.inj H
   have p452 : 0 ≤ (x7_1 : Int) := of_decide_eq_true (by first | (with_reducible assumption) | assumption)
   have q452 : x7_1 < (l0.length : Int) := of_decide_eq_true (by first | (with_reducible assumption) | assumption)
   obtain ⟨ad452, e452, hx452_0, hx452_1⟩ := at_T23 HR0.out x7_1 p452 q452
   cases e452
   replace p452 := eq_true p452
   replace q452 := eq_true q452
   have p453 : 0 ≤ (x7_1 : Int) := of_decide_eq_true (by first | (with_reducible assumption) | assumption)
   have q453 : x7_1 < (l0.length : Int) := of_decide_eq_true (by first | (with_reducible assumption) | assumption)
   obtain ⟨ad453, e453, hx453_0, hx453_1⟩ := at_T23 HR0.out x7_1 p453 q453
   obtain rfl : ad452 = ad453 := (by injection e453)
   replace p453 := eq_true p453
   replace q453 := eq_true q453
   go_wp2
   go_ret
   exact ⟨by first | rfl | (simp; done) | (simp [*]; done), by repeat (first | exact Drawn0.refl _ | apply Drawn0.step)⟩
  rw [if_neg c7] at H
  have c7b0 : (((rd_T23 l0 x7_1).f1) == a2) = false := beq_eq_false_iff_ne.mpr c7
  have c7b1 : (((rd_T23 l0 x7_1).f1) != a2) = true := bne_iff_ne.mpr c7
  have H' := Aside0.mk H
  clear H
  have p452 : 0 ≤ (x7_1 : Int) := of_decide_eq_true (by first | (with_reducible assumption) | assumption)
  have q452 : x7_1 < (l0.length : Int) := of_decide_eq_true (by first | (with_reducible assumption) | assumption)
  obtain ⟨ad452, e452, hx452_0, hx452_1⟩ := at_T23 HR0.out x7_1 p452 q452
  cases e452
  replace p452 := eq_true p452
  replace q452 := eq_true q452
  have p453 : 0 ≤ (x7_1 : Int) := of_decide_eq_true (by first | (with_reducible assumption) | assumption)
  have q453 : x7_1 < (l0.length : Int) := of_decide_eq_true (by first | (with_reducible assumption) | assumption)
  obtain ⟨ad453, e453, hx453_0, hx453_1⟩ := at_T23 HR0.out x7_1 p453 q453
  obtain rfl : ad452 = ad453 := (by injection e453)
  replace p453 := eq_true p453
  replace q453 := eq_true q453
  go_wp2
  go_roundg k1
  case measure => have := HK1.out; omega
  exact ⟨(wrap64 (x7_1 + 1)), (by first | rfl | (simp; done) | (simp [*]; done)), H', ⟨by have := HK1.out; omega⟩, by repeat (first | exact Drawn0.refl _ | apply Drawn0.step)⟩

mutual
def tickingref06_Closed.l0 : Nat → List (S39) → List (S23) → Int → Option (Bool)
 | 0, _, _, _ => none
 | k + 1, x0, x1, x5 => if x5 < (x1.length : Int) then (if 0 ≤ x5 then (if ((rd_T23 x1 x5).f0) < 0 then (tickingref06_Closed.j1 k x0 x1 x5 ((rd_T23 x1 x5).f0) ((rd_T23 x1 x5).f1) true) else (if ((rd_T23 x1 x5).f0) ≥ (x0.length : Int) then (tickingref06_Closed.j1 k x0 x1 x5 ((rd_T23 x1 x5).f0) ((rd_T23 x1 x5).f1) true) else (if ((rd_T23 x1 x5).f1) < 0 then (tickingref06_Closed.j1 k x0 x1 x5 ((rd_T23 x1 x5).f0) ((rd_T23 x1 x5).f1) true) else (tickingref06_Closed.j1 k x0 x1 x5 ((rd_T23 x1 x5).f0) ((rd_T23 x1 x5).f1) (decide (((rd_T23 x1 x5).f1) ≥ (x0.length : Int))))))) else (none)) else (some (decide ((x1.length : Int) ≤ 600)))
def tickingref06_Closed.j1 : Nat → List (S39) → List (S23) → Int → Int → Int → Bool → Option (Bool)
 | 0, _, _, _, _, _, _ => none
 | k + 1, x0, x1, x5, x6, x7, x43 => if x43 = true then (some false) else (if 0 ≤ x6 then (if x6 < (x0.length : Int) then (if 0 ≤ x7 then (if x7 < (x0.length : Int) then (if ((rd_T39 x0 x6).f0) = 0 then (tickingref06_Closed.j2 k x0 x1 x5 true ((rd_T39 x0 x6).f0) ((rd_T39 x0 x6).f1) ((rd_T39 x0 x6).f2) ((rd_T39 x0 x7).f0) ((rd_T39 x0 x7).f1) ((rd_T39 x0 x7).f2)) else (if ((rd_T39 x0 x7).f0) = 1 then (tickingref06_Closed.j2 k x0 x1 x5 true ((rd_T39 x0 x6).f0) ((rd_T39 x0 x6).f1) ((rd_T39 x0 x6).f2) ((rd_T39 x0 x7).f0) ((rd_T39 x0 x7).f1) ((rd_T39 x0 x7).f2)) else (if ((rd_T39 x0 x6).f0) = ((rd_T39 x0 x7).f0) then (tickingref06_Closed.j2 k x0 x1 x5 (decide (((rd_T39 x0 x6).f0) < 4)) ((rd_T39 x0 x6).f0) ((rd_T39 x0 x6).f1) ((rd_T39 x0 x6).f2) ((rd_T39 x0 x7).f0) ((rd_T39 x0 x7).f1) ((rd_T39 x0 x7).f2)) else (tickingref06_Closed.j2 k x0 x1 x5 false ((rd_T39 x0 x6).f0) ((rd_T39 x0 x6).f1) ((rd_T39 x0 x6).f2) ((rd_T39 x0 x7).f0) ((rd_T39 x0 x7).f1) ((rd_T39 x0 x7).f2))))) else (none)) else (none)) else (none)) else (none))
def tickingref06_Closed.j2 : Nat → List (S39) → List (S23) → Int → Bool → Int → Int → Int → Int → Int → Int → Option (Bool)
 | 0, _, _, _, _, _, _, _, _, _, _ => none
 | k + 1, x0, x1, x5, x71, x459000, x459001, x459002, x460000, x460001, x460002 => if x71 = true then (tickingref06_Closed.l0 k x0 x1 (wrap64 (x5 + 1))) else (if x459000 = x460000 then ((tickingref06_has.f k x1 x459002 x460002).bind fun t460 => (tickingref06_Closed.j3 k x0 x1 x5 (!t460) x459000 x459001 x459002 x460000 x460001 x460002)) else (tickingref06_Closed.j3 k x0 x1 x5 true x459000 x459001 x459002 x460000 x460001 x460002))
def tickingref06_Closed.j3 : Nat → List (S39) → List (S23) → Int → Bool → Int → Int → Int → Int → Int → Int → Option (Bool)
 | 0, _, _, _, _, _, _, _, _, _, _ => none
 | k + 1, x0, x1, x5, x85, x459000, x459001, x459002, x460000, x460001, x460002 => if x85 = true then (some false) else (if x459000 = 4 then ((tickingref06_has.f k x1 x459001 x460001).bind fun t461 => (if t461 = true then (if x459000 = 5 then ((tickingref06_has.f k x1 x460001 x459001).bind fun t462 => (if t462 = true then (tickingref06_Closed.l0 k x0 x1 (wrap64 (x5 + 1))) else (some false))) else (tickingref06_Closed.l0 k x0 x1 (wrap64 (x5 + 1)))) else (some false))) else (if x459000 = 5 then ((tickingref06_has.f k x1 x460001 x459001).bind fun t463 => (if t463 = true then (tickingref06_Closed.l0 k x0 x1 (wrap64 (x5 + 1))) else (some false))) else (tickingref06_Closed.l0 k x0 x1 (wrap64 (x5 + 1)))))
end
def tickingref06_Closed.f (k : Nat) (l0 : List (S39)) (l1 : List (S23)) : Option (Bool) := tickingref06_Closed.l0 k l0 l1 0
def tickingref06_Closed.T4 : Bool × List (List Nat × List Nat) := (true, [([], []), ([], []), ([0, 1], [0, 1]), ([2], [2]), ([3], [3]), ([], []), ([], []), ([5, 6], [5, 6]), ([7], [7]), ([8], [8]), ([4, 0, 1, 2, 3, 4], [4]), ([9, 10, 0, 1, 2, 3, 4, 5, 6, 7, 8, 9, 10], [9])])
def tickingref06_Closed.B4 : List Nat := [0, 0, 3, 7, 15, 0, 0, 96, 224, 480, 31, 2047]
theorem tickingref06_Closed.tab4 : rtab .any (opsOf Try.f52 4) = tickingref06_Closed.T4 := by kernel_rfl
theorem tickingref06_Closed.bits4 : waitsOk tickingref06_Closed.T4.2 tickingref06_Closed.B4 = true := by kernel_rfl
def tickingref06_Closed.T7 : Bool × List (List Nat × List Nat) := (true, [([], []), ([], []), ([0, 1], [0, 1]), ([2], [2]), ([], []), ([], []), ([4, 5], [4, 5]), ([6], [6]), ([], []), ([], []), ([8, 3, 0, 1, 2, 3, 8, 9], [3, 8]), ([9, 7, 10, 0, 1, 2, 3, 4, 5, 6, 7, 8, 9, 10], [7, 9])])
def tickingref06_Closed.B7 : List Nat := [0, 0, 3, 7, 0, 0, 48, 112, 0, 0, 783, 2047]
theorem tickingref06_Closed.tab7 : rtab .any (opsOf Try.f52 7) = tickingref06_Closed.T7 := by kernel_rfl
theorem tickingref06_Closed.bits7 : waitsOk tickingref06_Closed.T7.2 tickingref06_Closed.B7 = true := by kernel_rfl
set_option maxHeartbeats 8000000 in
set_option maxRecDepth 100000 in
theorem tickingref06_Closed.calls (k : Nat) (A0 : Option Addr) (c0 : Nat) (l0 : List (S39)) (A1 : Option Addr) (c1 : Nat) (l1 : List (S23)) (r : Bool) (w : World) (hr0 : Kd.C k39 w A0 l0.length l0) (hc0 : l0.length ≤ c0) (hr1 : Kd.C k23 w A1 l1.length l1) (hc1 : l1.length ≤ c1) (h : tickingref06_Closed.f k l0 l1 = some r) :
  Calls Try.prog 52 #[.slice A0 l0.length c0, .slice A1 l1.length c1] w fun e w' => e = .returned (.bool r) ∧ Below w.heap.size w w' := by
 have hu39 := Try.underlying39
 have HR0 := Aside0.mk hr0
 have HC0 := Aside0.mk hc0
 clear hr0 hc0
 have HR1 := Aside0.mk hr1
 have HC1 := Aside0.mk hc1
 clear hr1 hc1
 have HB := Aside0.mk (Below.refl w.heap.size w)
 have H : (tickingref06_Closed.l0 k l0 l1 0) = some r := h
 clear h
 have H' := Aside0.mk H
 clear H
 go_enter Try.func52, Try.ntmps52
 go_wp2
 go_loopg [5] k (fun kq v5 w' => ∃ (x5_1 : Int), v5 = .int .i64 x5_1 ∧ Aside0 (tickingref06_Closed.l0 kq l0 l1 x5_1 = some r) ∧ Aside0 (kq ≤ k) ∧ Aside0 (Below w.heap.size w w'))
 case atStart => exact ⟨(0), (by first | rfl | (simp; done) | (simp [*]; done)), H', ⟨Nat.le_refl _⟩, ⟨by repeat (first | (with_reducible first | exact HB.out | apply below_alloc | apply pw_below_drewN | apply below_drew1) | exact HB.out)⟩⟩
 clear H'
 try clear c1
 try clear p2
 obtain ⟨x5_1, rfl, HA, HK1, HB⟩ := hrel
 cases gk with
 | zero => exact absurd HA.out (by simp [tickingref06_Closed.l0])
 | succ k1 =>
  have H := HA.out
  clear HA
  simp only [tickingref06_Closed.l0] at H
  by_cases c3 : x5_1 < (l1.length : Int)
  rotate_left
  ·rw [if_neg c3] at H
   have c3b0 : decide (x5_1 < (l1.length : Int)) = false := decide_eq_false c3
   clear c3
   obtain rfl := Option.some.inj H
   go_wp2
   go_ret
   exact ⟨by first | rfl | (simp [errW_none, errW_some] <;> rfl) | (simp [*, errW_none, errW_some] <;> rfl), by repeat (first | (with_reducible first | exact HB.out | apply below_alloc | apply pw_below_drewN | apply below_drew1) | exact HB.out)⟩
  rw [if_pos c3] at H
  have c3b0 : decide (x5_1 < (l1.length : Int)) = true := decide_eq_true c3
  clear c3
  by_cases c4 : 0 ≤ x5_1
  rotate_left
  ·rw [if_neg c4] at H
   exact absurd H (by simp)
  rw [if_pos c4] at H
  have c4b0 : decide (0 ≤ x5_1) = true := decide_eq_true c4
  clear c4
  have HC5 := Aside0.mk H
  clear H
  try go_wp2
  have n0_ := Aside0.mk (below_drew1 HB.out)
  clear HB
  have HB := n0_
  clear n0_
  have p454 : 0 ≤ (x5_1 : Int) := of_decide_eq_true (by first | (with_reducible assumption) | assumption)
  have q454 : x5_1 < (l1.length : Int) := of_decide_eq_true (by first | (with_reducible assumption) | assumption)
  obtain ⟨ad454, e454, hx454_0, hx454_1⟩ := at_T23 HR1.out x5_1 p454 q454
  have hw454_1 := hx454_1
  have hw454_0 := hx454_0
  cases e454
  replace hx454_0 := (HB.out.cell (World.block_lt_of_cell? w _ hx454_0)).trans hx454_0
  replace hx454_1 := (HB.out.cell (World.block_lt_of_cell? w _ hx454_1)).trans hx454_1
  replace p454 := eq_true p454
  replace q454 := eq_true q454
  have p455 : 0 ≤ (x5_1 : Int) := of_decide_eq_true (by first | (with_reducible assumption) | assumption)
  have q455 : x5_1 < (l1.length : Int) := of_decide_eq_true (by first | (with_reducible assumption) | assumption)
  obtain ⟨ad455, e455, hx455_0, hx455_1⟩ := at_T23 HR1.out x5_1 p455 q455
  have hw455_1 := hx455_1
  have hw455_0 := hx455_0
  obtain rfl : ad454 = ad455 := (by injection e455)
  replace hx455_0 := (HB.out.cell (World.block_lt_of_cell? w _ hx455_0)).trans hx455_0
  replace hx455_1 := (HB.out.cell (World.block_lt_of_cell? w _ hx455_1)).trans hx455_1
  replace p455 := eq_true p455
  replace q455 := eq_true q455
  refine start_ (n := 12) (S := fun w' => w'.cell? (ad454.add ((x5_1).toNat * 2)) = some (.int .i64 ((rd_T23 l1 x5_1).f0)) ∧ w'.cell? ⟨(ad454.add ((x5_1).toNat * 2)).block, (ad454.add ((x5_1).toNat * 2)).off + 1, none⟩ = some (.int .i64 ((rd_T23 l1 x5_1).f1)) ∧ w'.cell? (ad454.add ((x5_1).toNat * 2)) = some (.int .i64 ((rd_T23 l1 x5_1).f0)) ∧ w'.cell? ⟨(ad454.add ((x5_1).toNat * 2)).block, (ad454.add ((x5_1).toNat * 2)).off + 1, none⟩ = some (.int .i64 ((rd_T23 l1 x5_1).f1))) (ds := []) #[false, false, false, false, false, false, false, false, false, false, false, false] (by kernel_rfl) rfl rfl ⟨((HB.out.cell (World.block_lt_of_cell? w _ hw454_0)).trans hw454_0), ((HB.out.cell (World.block_lt_of_cell? w _ hw454_1)).trans hw454_1), ((HB.out.cell (World.block_lt_of_cell? w _ hw455_0)).trans hw455_0), ((HB.out.cell (World.block_lt_of_cell? w _ hw455_1)).trans hw455_1)⟩ (fun hHeld => ?_); refine with_tabW tickingref06_Closed.tab4 tickingref06_Closed.bits4 (fun HT_ HW_ => ?_)
  generalize wr.drew = w6 at HB hx454_0 hx454_1 hx455_0 hx455_1 hHeld ⊢
  refine pure_ (i := 0) (N := some 16) (v := ?_) (a' := ?_) #[true, false, false, false, false, false, false, false, false, false, false, false] rfl rfl (any_of HT_.out (by kernel_rfl)) (fun _ _ _ h => h) (Or.inl ⟨by rfl, ?_⟩) ?_ ?_
  rotate_left
  ·intro w'
   go_simp
   with_reducible rfl
  rotate_left
  ·simp only [Act.put, List.setIfInBounds_toArray, List.set_cons_zero, List.set_cons_succ, i64_w, i32_w]
   rfl
  refine pure_ (i := 1) (N := some 17) (v := ?_) (a' := ?_) #[true, true, false, false, false, false, false, false, false, false, false, false] rfl rfl (any_of HT_.out (by kernel_rfl)) (fun _ _ _ h => h) (Or.inl ⟨by rfl, ?_⟩) ?_ ?_
  rotate_left
  ·intro w'
   go_simp
   with_reducible rfl
  rotate_left
  ·simp only [Act.put, List.setIfInBounds_toArray, List.set_cons_zero, List.set_cons_succ, i64_w, i32_w]
   rfl
  refine pure_ (i := 2) (N := some 18) (v := ?_) (a' := ?_) #[true, true, true, false, false, false, false, false, false, false, false, false] rfl rfl (any_of HT_.out (by kernel_rfl)) (fun _ _ _ h => h) (Or.inl ⟨by rfl, ?_⟩) ?_ ?_
  rotate_left
  ·intro w'
   go_simp
   with_reducible rfl
  rotate_left
  ·simp only [Act.put, List.setIfInBounds_toArray, List.set_cons_zero, List.set_cons_succ, i64_w, i32_w]
   rfl
  refine pure_ (i := 3) (N := some 19) (v := ?_) (a' := ?_) #[true, true, true, true, false, false, false, false, false, false, false, false] rfl rfl (any_of HT_.out (by kernel_rfl)) (fun _ _ _ h => h) (Or.inl ⟨by rfl, ?_⟩) ?_ ?_
  rotate_left
  ·intro w'
   go_simp
   with_reducible rfl
  rotate_left
  ·simp only [Act.put, List.setIfInBounds_toArray, List.set_cons_zero, List.set_cons_succ, i64_w, i32_w]
   rfl
  refine pure_ (i := 5) (N := some 21) (v := ?_) (a' := ?_) #[true, true, true, true, false, true, false, false, false, false, false, false] rfl rfl (any_of HT_.out (by kernel_rfl)) (fun _ _ _ h => h) (Or.inl ⟨by rfl, ?_⟩) ?_ ?_
  rotate_left
  ·intro w'
   go_simp
   with_reducible rfl
  rotate_left
  ·simp only [Act.put, List.setIfInBounds_toArray, List.set_cons_zero, List.set_cons_succ, i64_w, i32_w]
   rfl
  refine pure_ (i := 6) (N := some 22) (v := ?_) (a' := ?_) #[true, true, true, true, false, true, true, false, false, false, false, false] rfl rfl (any_of HT_.out (by kernel_rfl)) (fun _ _ _ h => h) (Or.inl ⟨by rfl, ?_⟩) ?_ ?_
  rotate_left
  ·intro w'
   go_simp
   with_reducible rfl
  rotate_left
  ·simp only [Act.put, List.setIfInBounds_toArray, List.set_cons_zero, List.set_cons_succ, i64_w, i32_w]
   rfl
  refine pure_ (i := 7) (N := some 23) (v := ?_) (a' := ?_) #[true, true, true, true, false, true, true, true, false, false, false, false] rfl rfl (any_of HT_.out (by kernel_rfl)) (fun _ _ _ h => h) (Or.inl ⟨by rfl, ?_⟩) ?_ ?_
  rotate_left
  ·intro w'
   go_simp
   with_reducible rfl
  rotate_left
  ·simp only [Act.put, List.setIfInBounds_toArray, List.set_cons_zero, List.set_cons_succ, i64_w, i32_w]
   rfl
  refine pure_ (i := 8) (N := some 24) (v := ?_) (a' := ?_) #[true, true, true, true, false, true, true, true, true, false, false, false] rfl rfl (any_of HT_.out (by kernel_rfl)) (fun _ _ _ h => h) (Or.inl ⟨by rfl, ?_⟩) ?_ ?_
  rotate_left
  ·intro w'
   go_simp
   with_reducible rfl
  rotate_left
  ·simp only [Act.put, List.setIfInBounds_toArray, List.set_cons_zero, List.set_cons_succ, i64_w, i32_w]
   rfl
  refine take_ (i := 4) (N := some 20) (v := ?_) (a' := ?_) #[true, true, true, true, true, true, true, true, true, false, false, false] rfl rfl (take_ofW HT_.out HW_.out (by kernel_rfl)) (fun _ _ _ h => h) (Or.inl ⟨by rfl, ?_⟩) hHeld ?_ ?_
  rotate_left
  ·rintro w' ⟨s0, s1, s2, s3⟩
   go_simp
   with_reducible rfl
  rotate_left
  ·simp only [Act.put, List.setIfInBounds_toArray, List.set_cons_zero, List.set_cons_succ, i64_w, i32_w]
   rfl
  refine pure_ (i := 10) (N := some 6) (v := ?_) (a' := ?_) #[true, true, true, true, true, true, true, true, true, false, true, false] rfl rfl (any_of HT_.out (by kernel_rfl)) (fun _ _ _ h => h) (Or.inl ⟨by rfl, ?_⟩) ?_ ?_
  rotate_left
  ·intro w'
   go_simp
   with_reducible rfl
  rotate_left
  ·simp only [Act.put, List.setIfInBounds_toArray, List.set_cons_zero, List.set_cons_succ, i64_w, i32_w]
   rfl
  refine take_ (i := 9) (N := some 25) (v := ?_) (a' := ?_) #[true, true, true, true, true, true, true, true, true, true, true, false] rfl rfl (take_ofW HT_.out HW_.out (by kernel_rfl)) (fun _ _ _ h => h) (Or.inl ⟨by rfl, ?_⟩) hHeld ?_ ?_
  rotate_left
  ·rintro w' ⟨s0, s1, s2, s3⟩
   go_simp
   with_reducible rfl
  rotate_left
  ·simp only [Act.put, List.setIfInBounds_toArray, List.set_cons_zero, List.set_cons_succ, i64_w, i32_w]
   rfl
  refine pure_ (i := 11) (N := some 7) (v := ?_) (a' := ?_) #[true, true, true, true, true, true, true, true, true, true, true, true] rfl rfl (any_of HT_.out (by kernel_rfl)) (fun _ _ _ h => h) (Or.inl ⟨by rfl, ?_⟩) ?_ ?_
  rotate_left
  ·intro w'
   go_simp
   with_reducible rfl
  rotate_left
  ·simp only [Act.put, List.setIfInBounds_toArray, List.set_cons_zero, List.set_cons_succ, i64_w, i32_w]
   rfl
  refine done_ (done_of HT_.out (by kernel_rfl)) ?_
  go_upto_region 5 with (fail)
  go_cut [43] (fun v43 wc => ∃ (kq : Nat) (x43_4 : Bool), v43 = .bool x43_4 ∧ Aside0 (tickingref06_Closed.j1 kq l0 l1 x5_1 ((rd_T23 l1 x5_1).f0) ((rd_T23 l1 x5_1).f1) x43_4 = some r) ∧ Aside0 (kq ≤ k1) ∧ Aside0 (Below w.heap.size w wc))
  case first =>
   have H := HC5.out
   clear HC5
   by_cases c7 : ((rd_T23 l1 x5_1).f0) < 0
   ·rw [if_pos c7] at H
    have c7b0 : decide (((rd_T23 l1 x5_1).f0) < 0) = true := decide_eq_true c7
    clear c7
    (first | rw [c7b0] | (simp only [i64_w, i32_w]; rw [c7b0]) | skip)
    have H' := Aside0.mk H
    clear H
    go_wp2
    go_meet
    exact ⟨_, (true), (by first | rfl | (simp; done) | (simp [*]; done)), H', ⟨by have := HK1.out; first | omega | exact Nat.le_refl _⟩, ⟨by repeat (first | (with_reducible first | exact HB.out | apply below_alloc | apply pw_below_drewN | apply below_drew1) | exact HB.out)⟩⟩
   rw [if_neg c7] at H
   have c7b0 : decide (((rd_T23 l1 x5_1).f0) < 0) = false := decide_eq_false c7
   clear c7
   (first | rw [c7b0] | (simp only [i64_w, i32_w]; rw [c7b0]) | skip)
   by_cases c8 : ((rd_T23 l1 x5_1).f0) ≥ (l0.length : Int)
   ·rw [if_pos c8] at H
    have c8b0 : decide ((l0.length : Int) ≤ ((rd_T23 l1 x5_1).f0)) = true := decide_eq_true c8
    clear c8
    have H' := Aside0.mk H
    clear H
    go_wp2
    go_meet
    exact ⟨_, (true), (by first | rfl | (simp; done) | (simp [*]; done)), H', ⟨by have := HK1.out; first | omega | exact Nat.le_refl _⟩, ⟨by repeat (first | (with_reducible first | exact HB.out | apply below_alloc | apply pw_below_drewN | apply below_drew1) | exact HB.out)⟩⟩
   rw [if_neg c8] at H
   have c8b0 : decide ((l0.length : Int) ≤ ((rd_T23 l1 x5_1).f0)) = false := decide_eq_false c8
   clear c8
   by_cases c9 : ((rd_T23 l1 x5_1).f1) < 0
   ·rw [if_pos c9] at H
    have c9b0 : decide (((rd_T23 l1 x5_1).f1) < 0) = true := decide_eq_true c9
    clear c9
    have H' := Aside0.mk H
    clear H
    go_wp2
    go_meet
    exact ⟨_, (true), (by first | rfl | (simp; done) | (simp [*]; done)), H', ⟨by have := HK1.out; first | omega | exact Nat.le_refl _⟩, ⟨by repeat (first | (with_reducible first | exact HB.out | apply below_alloc | apply pw_below_drewN | apply below_drew1) | exact HB.out)⟩⟩
   rw [if_neg c9] at H
   have c9b0 : decide (((rd_T23 l1 x5_1).f1) < 0) = false := decide_eq_false c9
   clear c9
   have H' := Aside0.mk H
   clear H
   go_wp2
   go_meet
   exact ⟨_, (decide (((rd_T23 l1 x5_1).f1) ≥ (l0.length : Int))), (by first | rfl | (simp; done) | (simp [*]; done)), H', ⟨by have := HK1.out; first | omega | exact Nat.le_refl _⟩, ⟨by repeat (first | (with_reducible first | exact HB.out | apply below_alloc | apply pw_below_drewN | apply below_drew1) | exact HB.out)⟩⟩
  case rest =>
   clear HC5
   try clear c1
   try clear p2
   try clear c3
   try clear c3b0
   try clear c4
   try clear c4b0
   try clear p4
   try clear q4
   try clear hx4
   try clear c5
   try clear c7
   try clear c7b0
   try clear c8
   try clear c8b0
   try clear c9
   try clear c9b0
   try clear hx454_0
   try clear hx454_1
   try clear hx455_0
   try clear hx455_1
   try clear p2
   try clear p454
   try clear p455
   try clear q454
   try clear q455
   obtain ⟨kq, x43_4, rfl, HA, HJ4, HB⟩ := hcut
   cases kq with
   | zero => exact absurd HA.out (by simp [tickingref06_Closed.j1])
   | succ kj4 =>
    have H := HA.out
    clear HA
    simp only [tickingref06_Closed.j1] at H
    by_cases c10 : x43_4 = true
    ·subst c10
     have H1 : (some false) = some r := by rw [if_pos rfl] at H; exact H
     clear H
     have H := H1
     clear H1
     obtain rfl := Option.some.inj H
     go_wp2
     go_ret
     exact ⟨by first | rfl | (simp [errW_none, errW_some] <;> rfl) | (simp [*, errW_none, errW_some] <;> rfl), by repeat (first | (with_reducible first | exact HB.out | apply below_alloc | apply pw_below_drewN | apply below_drew1) | exact HB.out)⟩
    replace c10 := Bool.eq_false_iff.mpr c10
    subst c10
    have H1 : (if 0 ≤ ((rd_T23 l1 x5_1).f0) then (if ((rd_T23 l1 x5_1).f0) < (l0.length : Int) then (if 0 ≤ ((rd_T23 l1 x5_1).f1) then (if ((rd_T23 l1 x5_1).f1) < (l0.length : Int) then (if ((rd_T39 l0 ((rd_T23 l1 x5_1).f0)).f0) = 0 then (tickingref06_Closed.j2 kj4 l0 l1 x5_1 true ((rd_T39 l0 ((rd_T23 l1 x5_1).f0)).f0) ((rd_T39 l0 ((rd_T23 l1 x5_1).f0)).f1) ((rd_T39 l0 ((rd_T23 l1 x5_1).f0)).f2) ((rd_T39 l0 ((rd_T23 l1 x5_1).f1)).f0) ((rd_T39 l0 ((rd_T23 l1 x5_1).f1)).f1) ((rd_T39 l0 ((rd_T23 l1 x5_1).f1)).f2)) else (if ((rd_T39 l0 ((rd_T23 l1 x5_1).f1)).f0) = 1 then (tickingref06_Closed.j2 kj4 l0 l1 x5_1 true ((rd_T39 l0 ((rd_T23 l1 x5_1).f0)).f0) ((rd_T39 l0 ((rd_T23 l1 x5_1).f0)).f1) ((rd_T39 l0 ((rd_T23 l1 x5_1).f0)).f2) ((rd_T39 l0 ((rd_T23 l1 x5_1).f1)).f0) ((rd_T39 l0 ((rd_T23 l1 x5_1).f1)).f1) ((rd_T39 l0 ((rd_T23 l1 x5_1).f1)).f2)) else (if ((rd_T39 l0 ((rd_T23 l1 x5_1).f0)).f0) = ((rd_T39 l0 ((rd_T23 l1 x5_1).f1)).f0) then (tickingref06_Closed.j2 kj4 l0 l1 x5_1 (decide (((rd_T39 l0 ((rd_T23 l1 x5_1).f0)).f0) < 4)) ((rd_T39 l0 ((rd_T23 l1 x5_1).f0)).f0) ((rd_T39 l0 ((rd_T23 l1 x5_1).f0)).f1) ((rd_T39 l0 ((rd_T23 l1 x5_1).f0)).f2) ((rd_T39 l0 ((rd_T23 l1 x5_1).f1)).f0) ((rd_T39 l0 ((rd_T23 l1 x5_1).f1)).f1) ((rd_T39 l0 ((rd_T23 l1 x5_1).f1)).f2)) else (tickingref06_Closed.j2 kj4 l0 l1 x5_1 false ((rd_T39 l0 ((rd_T23 l1 x5_1).f0)).f0) ((rd_T39 l0 ((rd_T23 l1 x5_1).f0)).f1) ((rd_T39 l0 ((rd_T23 l1 x5_1).f0)).f2) ((rd_T39 l0 ((rd_T23 l1 x5_1).f1)).f0) ((rd_T39 l0 ((rd_T23 l1 x5_1).f1)).f1) ((rd_T39 l0 ((rd_T23 l1 x5_1).f1)).f2))))) else (none)) else (none)) else (none)) else (none)) = some r := by rw [if_neg (show ¬ (false = true) by decide)] at H; exact H
    clear H
    have H := H1
    clear H1
    by_cases c11 : 0 ≤ ((rd_T23 l1 x5_1).f0)
    rotate_left
    ·rw [if_neg c11] at H
     exact absurd H (by simp)
    rw [if_pos c11] at H
    have c11b0 : decide (0 ≤ ((rd_T23 l1 x5_1).f0)) = true := decide_eq_true c11
    clear c11
    by_cases c12 : ((rd_T23 l1 x5_1).f0) < (l0.length : Int)
    rotate_left
    ·rw [if_neg c12] at H
     exact absurd H (by simp)
    rw [if_pos c12] at H
    have c12b0 : decide (((rd_T23 l1 x5_1).f0) < (l0.length : Int)) = true := decide_eq_true c12
    clear c12
    by_cases c13 : 0 ≤ ((rd_T23 l1 x5_1).f1)
    rotate_left
    ·rw [if_neg c13] at H
     exact absurd H (by simp)
    rw [if_pos c13] at H
    have c13b0 : decide (0 ≤ ((rd_T23 l1 x5_1).f1)) = true := decide_eq_true c13
    clear c13
    by_cases c14 : ((rd_T23 l1 x5_1).f1) < (l0.length : Int)
    rotate_left
    ·rw [if_neg c14] at H
     exact absurd H (by simp)
    rw [if_pos c14] at H
    have c14b0 : decide (((rd_T23 l1 x5_1).f1) < (l0.length : Int)) = true := decide_eq_true c14
    clear c14
    have HC15 := Aside0.mk H
    clear H
    try go_wp2
    have n0_ := Aside0.mk (below_drew1 HB.out)
    clear HB
    have HB := n0_
    clear n0_
    have p456 : 0 ≤ (((rd_T23 l1 x5_1).f0) : Int) := of_decide_eq_true (by first | (with_reducible assumption) | assumption)
    have q456 : ((rd_T23 l1 x5_1).f0) < (l0.length : Int) := of_decide_eq_true (by first | (with_reducible assumption) | assumption)
    obtain ⟨ad456, e456, hx456_0, hx456_1, hx456_2⟩ := at_T39 HR0.out ((rd_T23 l1 x5_1).f0) p456 q456
    have hw456_2 := hx456_2
    have hw456_1 := hx456_1
    have hw456_0 := hx456_0
    cases e456
    replace hx456_0 := (HB.out.cell (World.block_lt_of_cell? w _ hx456_0)).trans hx456_0
    replace hx456_1 := (HB.out.cell (World.block_lt_of_cell? w _ hx456_1)).trans hx456_1
    replace hx456_2 := (HB.out.cell (World.block_lt_of_cell? w _ hx456_2)).trans hx456_2
    replace p456 := eq_true p456
    replace q456 := eq_true q456
    have p457 : 0 ≤ (((rd_T23 l1 x5_1).f1) : Int) := of_decide_eq_true (by first | (with_reducible assumption) | assumption)
    have q457 : ((rd_T23 l1 x5_1).f1) < (l0.length : Int) := of_decide_eq_true (by first | (with_reducible assumption) | assumption)
    obtain ⟨ad457, e457, hx457_0, hx457_1, hx457_2⟩ := at_T39 HR0.out ((rd_T23 l1 x5_1).f1) p457 q457
    have hw457_2 := hx457_2
    have hw457_1 := hx457_1
    have hw457_0 := hx457_0
    obtain rfl : ad456 = ad457 := (by injection e457)
    replace hx457_0 := (HB.out.cell (World.block_lt_of_cell? w _ hx457_0)).trans hx457_0
    replace hx457_1 := (HB.out.cell (World.block_lt_of_cell? w _ hx457_1)).trans hx457_1
    replace hx457_2 := (HB.out.cell (World.block_lt_of_cell? w _ hx457_2)).trans hx457_2
    replace p457 := eq_true p457
    replace q457 := eq_true q457
    refine start_ (n := 12) (S := fun w' => w'.cell? (ad456.add ((((rd_T23 l1 x5_1).f0)).toNat * 3)) = some (.int .i64 ((rd_T39 l0 ((rd_T23 l1 x5_1).f0)).f0)) ∧ w'.cell? ⟨(ad456.add ((((rd_T23 l1 x5_1).f0)).toNat * 3)).block, (ad456.add ((((rd_T23 l1 x5_1).f0)).toNat * 3)).off + 1, none⟩ = some (.int .i64 ((rd_T39 l0 ((rd_T23 l1 x5_1).f0)).f1)) ∧ w'.cell? ⟨(ad456.add ((((rd_T23 l1 x5_1).f0)).toNat * 3)).block, (ad456.add ((((rd_T23 l1 x5_1).f0)).toNat * 3)).off + 2, none⟩ = some (.int .i64 ((rd_T39 l0 ((rd_T23 l1 x5_1).f0)).f2)) ∧ w'.cell? (ad456.add ((((rd_T23 l1 x5_1).f1)).toNat * 3)) = some (.int .i64 ((rd_T39 l0 ((rd_T23 l1 x5_1).f1)).f0)) ∧ w'.cell? ⟨(ad456.add ((((rd_T23 l1 x5_1).f1)).toNat * 3)).block, (ad456.add ((((rd_T23 l1 x5_1).f1)).toNat * 3)).off + 1, none⟩ = some (.int .i64 ((rd_T39 l0 ((rd_T23 l1 x5_1).f1)).f1)) ∧ w'.cell? ⟨(ad456.add ((((rd_T23 l1 x5_1).f1)).toNat * 3)).block, (ad456.add ((((rd_T23 l1 x5_1).f1)).toNat * 3)).off + 2, none⟩ = some (.int .i64 ((rd_T39 l0 ((rd_T23 l1 x5_1).f1)).f2))) (ds := []) #[false, false, false, false, false, false, false, false, false, false, false, false] (by kernel_rfl) rfl rfl ⟨((HB.out.cell (World.block_lt_of_cell? w _ hw456_0)).trans hw456_0), ((HB.out.cell (World.block_lt_of_cell? w _ hw456_1)).trans hw456_1), ((HB.out.cell (World.block_lt_of_cell? w _ hw456_2)).trans hw456_2), ((HB.out.cell (World.block_lt_of_cell? w _ hw457_0)).trans hw457_0), ((HB.out.cell (World.block_lt_of_cell? w _ hw457_1)).trans hw457_1), ((HB.out.cell (World.block_lt_of_cell? w _ hw457_2)).trans hw457_2)⟩ (fun hHeld => ?_); refine with_tabW tickingref06_Closed.tab7 tickingref06_Closed.bits7 (fun HT_ HW_ => ?_)
    generalize wc.drew = w16 at HB hx456_0 hx456_1 hx456_2 hx457_0 hx457_1 hx457_2 hHeld ⊢
    refine pure_ (i := 0) (N := some 44) (v := ?_) (a' := ?_) #[true, false, false, false, false, false, false, false, false, false, false, false] rfl rfl (any_of HT_.out (by kernel_rfl)) (fun _ _ _ h => h) (Or.inl ⟨by rfl, ?_⟩) ?_ ?_
    rotate_left
    ·intro w'
     go_simp
     with_reducible rfl
    rotate_left
    ·simp only [Act.put, List.setIfInBounds_toArray, List.set_cons_zero, List.set_cons_succ, i64_w, i32_w]
     rfl
    refine pure_ (i := 1) (N := some 45) (v := ?_) (a' := ?_) #[true, true, false, false, false, false, false, false, false, false, false, false] rfl rfl (any_of HT_.out (by kernel_rfl)) (fun _ _ _ h => h) (Or.inl ⟨by rfl, ?_⟩) ?_ ?_
    rotate_left
    ·intro w'
     go_simp
     with_reducible rfl
    rotate_left
    ·simp only [Act.put, List.setIfInBounds_toArray, List.set_cons_zero, List.set_cons_succ, i64_w, i32_w]
     rfl
    refine pure_ (i := 2) (N := some 46) (v := ?_) (a' := ?_) #[true, true, true, false, false, false, false, false, false, false, false, false] rfl rfl (any_of HT_.out (by kernel_rfl)) (fun _ _ _ h => h) (Or.inl ⟨by rfl, ?_⟩) ?_ ?_
    rotate_left
    ·intro w'
     go_simp
     with_reducible rfl
    rotate_left
    ·simp only [Act.put, List.setIfInBounds_toArray, List.set_cons_zero, List.set_cons_succ, i64_w, i32_w]
     rfl
    refine pure_ (i := 4) (N := some 48) (v := ?_) (a' := ?_) #[true, true, true, false, true, false, false, false, false, false, false, false] rfl rfl (any_of HT_.out (by kernel_rfl)) (fun _ _ _ h => h) (Or.inl ⟨by rfl, ?_⟩) ?_ ?_
    rotate_left
    ·intro w'
     go_simp
     with_reducible rfl
    rotate_left
    ·simp only [Act.put, List.setIfInBounds_toArray, List.set_cons_zero, List.set_cons_succ, i64_w, i32_w]
     rfl
    refine pure_ (i := 5) (N := some 49) (v := ?_) (a' := ?_) #[true, true, true, false, true, true, false, false, false, false, false, false] rfl rfl (any_of HT_.out (by kernel_rfl)) (fun _ _ _ h => h) (Or.inl ⟨by rfl, ?_⟩) ?_ ?_
    rotate_left
    ·intro w'
     go_simp
     with_reducible rfl
    rotate_left
    ·simp only [Act.put, List.setIfInBounds_toArray, List.set_cons_zero, List.set_cons_succ, i64_w, i32_w]
     rfl
    refine pure_ (i := 6) (N := some 50) (v := ?_) (a' := ?_) #[true, true, true, false, true, true, true, false, false, false, false, false] rfl rfl (any_of HT_.out (by kernel_rfl)) (fun _ _ _ h => h) (Or.inl ⟨by rfl, ?_⟩) ?_ ?_
    rotate_left
    ·intro w'
     go_simp
     with_reducible rfl
    rotate_left
    ·simp only [Act.put, List.setIfInBounds_toArray, List.set_cons_zero, List.set_cons_succ, i64_w, i32_w]
     rfl
    refine take_ (i := 3) (N := some 47) (v := ?_) (a' := ?_) #[true, true, true, true, true, true, true, false, false, false, false, false] rfl rfl (take_ofW HT_.out HW_.out (by kernel_rfl)) (fun _ _ _ h => h) (Or.inl ⟨by rfl, ?_⟩) hHeld ?_ ?_
    rotate_left
    ·rintro w' ⟨s0, s1, s2, s3, s4, s5⟩
     go_simp
     with_reducible rfl
    rotate_left
    ·simp only [Act.put, List.setIfInBounds_toArray, List.set_cons_zero, List.set_cons_succ, i64_w, i32_w]
     rfl
    refine take_ (i := 7) (N := some 51) (v := ?_) (a' := ?_) #[true, true, true, true, true, true, true, true, false, false, false, false] rfl rfl (take_ofW HT_.out HW_.out (by kernel_rfl)) (fun _ _ _ h => h) (Or.inl ⟨by rfl, ?_⟩) hHeld ?_ ?_
    rotate_left
    ·rintro w' ⟨s0, s1, s2, s3, s4, s5⟩
     go_simp
     with_reducible rfl
    rotate_left
    ·simp only [Act.put, List.setIfInBounds_toArray, List.set_cons_zero, List.set_cons_succ, i64_w, i32_w]
     rfl
    refine join_ (σ := Nat × Nat) 2 #[true, true, true, true, true, true, true, true, true, true, false, false] (fun s_ => [(8, .pointer (some ⟨s_.1, 0, none⟩)), (9, .pointer (some ⟨s_.2, 0, none⟩))]) (fun s_ w' => (w'.cell? (ad456.add ((((rd_T23 l1 x5_1).f0)).toNat * 3)) = some (.int .i64 ((rd_T39 l0 ((rd_T23 l1 x5_1).f0)).f0)) ∧ w'.cell? ⟨(ad456.add ((((rd_T23 l1 x5_1).f0)).toNat * 3)).block, (ad456.add ((((rd_T23 l1 x5_1).f0)).toNat * 3)).off + 1, none⟩ = some (.int .i64 ((rd_T39 l0 ((rd_T23 l1 x5_1).f0)).f1)) ∧ w'.cell? ⟨(ad456.add ((((rd_T23 l1 x5_1).f0)).toNat * 3)).block, (ad456.add ((((rd_T23 l1 x5_1).f0)).toNat * 3)).off + 2, none⟩ = some (.int .i64 ((rd_T39 l0 ((rd_T23 l1 x5_1).f0)).f2)) ∧ w'.cell? (ad456.add ((((rd_T23 l1 x5_1).f1)).toNat * 3)) = some (.int .i64 ((rd_T39 l0 ((rd_T23 l1 x5_1).f1)).f0)) ∧ w'.cell? ⟨(ad456.add ((((rd_T23 l1 x5_1).f1)).toNat * 3)).block, (ad456.add ((((rd_T23 l1 x5_1).f1)).toNat * 3)).off + 1, none⟩ = some (.int .i64 ((rd_T39 l0 ((rd_T23 l1 x5_1).f1)).f1)) ∧ w'.cell? ⟨(ad456.add ((((rd_T23 l1 x5_1).f1)).toNat * 3)).block, (ad456.add ((((rd_T23 l1 x5_1).f1)).toNat * 3)).off + 2, none⟩ = some (.int .i64 ((rd_T39 l0 ((rd_T23 l1 x5_1).f1)).f2))) ∧ (w'.heap[s_.1]? = some (.cells #[.int .i64 0, .int .i64 0, .int .i64 0] 39 (0, 0))) ∧ (w'.heap[s_.2]? = some (.cells #[.int .i64 0, .int .i64 0, .int .i64 0] 39 (0, 0))) ∧ (w.heap.size ≤ s_.1) ∧ (w.heap.size ≤ s_.1) ∧ (s_.2 ≠ s_.1) ∧ (s_.1 ≠ s_.2) ∧ (w.heap.size ≤ s_.2) ∧ (w.heap.size ≤ s_.2) ∧ (Below w.heap.size w w')) ?_ ?_
    rotate_left
    ·intro hCont
     refine two_ (i := 8) (j := 9) (Ni := some 8) (Nj := some 9) #[true, true, true, true, true, true, true, true, true, false, false, false] #[true, true, true, true, true, true, true, true, false, true, false, false] rfl rfl rfl rfl (two_of HT_.out (by kernel_rfl)) (by decide) (by decide) (fun K hK => ?_) (fun K hK => ?_)
     ·skip
      refine box_step ?hg (N := 8) ?hd (cs := #[.int .i64 0, .int .i64 0, .int .i64 0]) (t := 39) ?hr ?_; (case hd => rfl); (case hg => rfl); (case hr => first | (go_simp; done) | (go_simp; rfl))
      intro gb458 hg w17 hbox hb
      have n0_ := Aside0.mk (below_step (by repeat (first | (with_reducible first | exact HB.out | apply below_alloc | apply pw_below_drewN | apply below_drew1) | exact HB.out)) hb)
      have n1_ := Aside0.mk (hbox)
      have n2_ := Aside0.mk ((by rw [hg]; exact (below_size (by repeat (first | (with_reducible first | exact HB.out | apply below_alloc | apply pw_below_drewN | apply below_drew1) | exact HB.out))) : w.heap.size ≤ gb458))
      have n3_ := Aside0.mk ((by rw [hg]; exact (below_size (by repeat (first | (with_reducible first | exact HB.out | apply below_alloc | apply pw_below_drewN | apply below_drew1) | exact HB.out))) : w.heap.size ≤ gb458))
      clear HB
      have HB := n0_
      have BK458 := n1_
      have GW458 := n2_
      have GE458 := n3_
      clear n0_ n1_ n2_ n3_
      clear hb hbox hg
      refine hK.out _ _ ⟨((HB.out.cell (World.block_lt_of_cell? w _ hw456_0)).trans hw456_0), ((HB.out.cell (World.block_lt_of_cell? w _ hw456_1)).trans hw456_1), ((HB.out.cell (World.block_lt_of_cell? w _ hw456_2)).trans hw456_2), ((HB.out.cell (World.block_lt_of_cell? w _ hw457_0)).trans hw457_0), ((HB.out.cell (World.block_lt_of_cell? w _ hw457_1)).trans hw457_1), ((HB.out.cell (World.block_lt_of_cell? w _ hw457_2)).trans hw457_2)⟩ (fun hHeld => ?_)
      clear hK K
      refine norm_ (a' := ?_) ?_ ?_
      rotate_left
      ·show Act.put _ (some 8) _ = _
       simp only [Act.put, List.setIfInBounds_toArray, List.set_cons_zero, List.set_cons_succ, i64_w, i32_w]
       rfl
      refine one_ (i := 9) (N := some 9) #[true, true, true, true, true, true, true, true, true, true, false, false] rfl rfl (one_of HT_.out (by kernel_rfl)) (by decide) (fun K hK => ?_)
      refine box_step ?hg (N := 9) ?hd (cs := #[.int .i64 0, .int .i64 0, .int .i64 0]) (t := 39) ?hr ?_; (case hd => rfl); (case hg => rfl); (case hr => first | (go_simp; done) | (go_simp; rfl))
      intro gb459 hg w18 hbox hb
      have n0_ := Aside0.mk (blk_below (g := gb458) (o := .cells #[.int .i64 0, .int .i64 0, .int .i64 0] 39 (0, 0)) (by (with_reducible repeat (first | refine blk_drewN ?_ _ | refine blk_drew ?_ | refine blk_alloc ?_ _)); exact BK458.out) hb)
      have n1_ := Aside0.mk (below_step (by repeat (first | (with_reducible first | exact HB.out | apply below_alloc | apply pw_below_drewN | apply below_drew1 | refine below_set ?_ GE458.out) | exact HB.out)) hb)
      have n2_ := Aside0.mk (hbox)
      have n3_ := Aside0.mk ((by rw [hg]; exact (below_size (by repeat (first | (with_reducible first | exact HB.out | apply below_alloc | apply pw_below_drewN | apply below_drew1 | refine below_set ?_ GE458.out) | exact HB.out))) : w.heap.size ≤ gb459))
      have n4_ := Aside0.mk ((by rw [hg]; exact (below_size (by repeat (first | (with_reducible first | exact HB.out | apply below_alloc | apply pw_below_drewN | apply below_drew1 | refine below_set ?_ GE458.out) | exact HB.out))) : w.heap.size ≤ gb459))
      have n5_ := Aside0.mk ((by rw [hg]; exact Nat.ne_of_lt (blk_lt (g := gb458) (o := .cells #[.int .i64 0, .int .i64 0, .int .i64 0] 39 (0, 0)) (by (with_reducible repeat (first | refine blk_drewN ?_ _ | refine blk_drew ?_ | refine blk_alloc ?_ _)); exact BK458.out)) : gb458 ≠ gb459))
      have n6_ := Aside0.mk ((by rw [hg]; exact Nat.ne_of_gt (blk_lt (g := gb458) (o := .cells #[.int .i64 0, .int .i64 0, .int .i64 0] 39 (0, 0)) (by (with_reducible repeat (first | refine blk_drewN ?_ _ | refine blk_drew ?_ | refine blk_alloc ?_ _)); exact BK458.out)) : gb459 ≠ gb458))
      clear BK458
      clear HB
      have BK458 := n0_
      have HB := n1_
      have BK459 := n2_
      have GW459 := n3_
      have GE459 := n4_
      have NB458_459 := n5_
      have NB459_458 := n6_
      clear n0_ n1_ n2_ n3_ n4_ n5_ n6_
      clear hb hbox hg
      refine hK.out _ _ ⟨((HB.out.cell (World.block_lt_of_cell? w _ hw456_0)).trans hw456_0), ((HB.out.cell (World.block_lt_of_cell? w _ hw456_1)).trans hw456_1), ((HB.out.cell (World.block_lt_of_cell? w _ hw456_2)).trans hw456_2), ((HB.out.cell (World.block_lt_of_cell? w _ hw457_0)).trans hw457_0), ((HB.out.cell (World.block_lt_of_cell? w _ hw457_1)).trans hw457_1), ((HB.out.cell (World.block_lt_of_cell? w _ hw457_2)).trans hw457_2)⟩ (fun hHeld => ?_)
      clear hK K
      refine norm_ (a' := ?_) ?_ ?_
      rotate_left
      ·show Act.put _ (some 9) _ = _
       simp only [Act.put, List.setIfInBounds_toArray, List.set_cons_zero, List.set_cons_succ, i64_w, i32_w]
       rfl
      exact norm_ (by simp only [putAll, Act.put, List.setIfInBounds_toArray, List.set_cons_zero, List.set_cons_succ]) (hCont (gb458, gb459) _ ⟨hHeld, (by (with_reducible repeat (first | refine blk_drewN ?_ _ | refine blk_drew ?_ | refine blk_alloc ?_ _)); exact BK458.out), (by (with_reducible repeat (first | refine blk_drewN ?_ _ | refine blk_drew ?_ | refine blk_alloc ?_ _)); exact BK459.out), GW458.out, GE458.out, NB459_458.out, NB458_459.out, GW459.out, GE459.out, (by repeat (first | (with_reducible first | exact HB.out | apply below_alloc | apply pw_below_drewN | apply below_drew1 | refine below_set ?_ GE458.out | refine below_set ?_ GE459.out) | exact HB.out))⟩)
     skip
     refine box_step ?hg (N := 9) ?hd (cs := #[.int .i64 0, .int .i64 0, .int .i64 0]) (t := 39) ?hr ?_; (case hd => rfl); (case hg => rfl); (case hr => first | (go_simp; done) | (go_simp; rfl))
     intro gb459 hg w17 hbox hb
     have n0_ := Aside0.mk (below_step (by repeat (first | (with_reducible first | exact HB.out | apply below_alloc | apply pw_below_drewN | apply below_drew1) | exact HB.out)) hb)
     have n1_ := Aside0.mk (hbox)
     have n2_ := Aside0.mk ((by rw [hg]; exact (below_size (by repeat (first | (with_reducible first | exact HB.out | apply below_alloc | apply pw_below_drewN | apply below_drew1) | exact HB.out))) : w.heap.size ≤ gb459))
     have n3_ := Aside0.mk ((by rw [hg]; exact (below_size (by repeat (first | (with_reducible first | exact HB.out | apply below_alloc | apply pw_below_drewN | apply below_drew1) | exact HB.out))) : w.heap.size ≤ gb459))
     clear HB
     have HB := n0_
     have BK459 := n1_
     have GW459 := n2_
     have GE459 := n3_
     clear n0_ n1_ n2_ n3_
     clear hb hbox hg
     refine hK.out _ _ ⟨((HB.out.cell (World.block_lt_of_cell? w _ hw456_0)).trans hw456_0), ((HB.out.cell (World.block_lt_of_cell? w _ hw456_1)).trans hw456_1), ((HB.out.cell (World.block_lt_of_cell? w _ hw456_2)).trans hw456_2), ((HB.out.cell (World.block_lt_of_cell? w _ hw457_0)).trans hw457_0), ((HB.out.cell (World.block_lt_of_cell? w _ hw457_1)).trans hw457_1), ((HB.out.cell (World.block_lt_of_cell? w _ hw457_2)).trans hw457_2)⟩ (fun hHeld => ?_)
     clear hK K
     refine norm_ (a' := ?_) ?_ ?_
     rotate_left
     ·show Act.put _ (some 9) _ = _
      simp only [Act.put, List.setIfInBounds_toArray, List.set_cons_zero, List.set_cons_succ, i64_w, i32_w]
      rfl
     refine one_ (i := 8) (N := some 8) #[true, true, true, true, true, true, true, true, true, true, false, false] rfl rfl (one_of HT_.out (by kernel_rfl)) (by decide) (fun K hK => ?_)
     refine box_step ?hg (N := 8) ?hd (cs := #[.int .i64 0, .int .i64 0, .int .i64 0]) (t := 39) ?hr ?_; (case hd => rfl); (case hg => rfl); (case hr => first | (go_simp; done) | (go_simp; rfl))
     intro gb458 hg w18 hbox hb
     have n0_ := Aside0.mk (blk_below (g := gb459) (o := .cells #[.int .i64 0, .int .i64 0, .int .i64 0] 39 (0, 0)) (by (with_reducible repeat (first | refine blk_drewN ?_ _ | refine blk_drew ?_ | refine blk_alloc ?_ _)); exact BK459.out) hb)
     have n1_ := Aside0.mk (below_step (by repeat (first | (with_reducible first | exact HB.out | apply below_alloc | apply pw_below_drewN | apply below_drew1 | refine below_set ?_ GE459.out) | exact HB.out)) hb)
     have n2_ := Aside0.mk (hbox)
     have n3_ := Aside0.mk ((by rw [hg]; exact (below_size (by repeat (first | (with_reducible first | exact HB.out | apply below_alloc | apply pw_below_drewN | apply below_drew1 | refine below_set ?_ GE459.out) | exact HB.out))) : w.heap.size ≤ gb458))
     have n4_ := Aside0.mk ((by rw [hg]; exact (below_size (by repeat (first | (with_reducible first | exact HB.out | apply below_alloc | apply pw_below_drewN | apply below_drew1 | refine below_set ?_ GE459.out) | exact HB.out))) : w.heap.size ≤ gb458))
     have n5_ := Aside0.mk ((by rw [hg]; exact Nat.ne_of_lt (blk_lt (g := gb459) (o := .cells #[.int .i64 0, .int .i64 0, .int .i64 0] 39 (0, 0)) (by (with_reducible repeat (first | refine blk_drewN ?_ _ | refine blk_drew ?_ | refine blk_alloc ?_ _)); exact BK459.out)) : gb459 ≠ gb458))
     have n6_ := Aside0.mk ((by rw [hg]; exact Nat.ne_of_gt (blk_lt (g := gb459) (o := .cells #[.int .i64 0, .int .i64 0, .int .i64 0] 39 (0, 0)) (by (with_reducible repeat (first | refine blk_drewN ?_ _ | refine blk_drew ?_ | refine blk_alloc ?_ _)); exact BK459.out)) : gb458 ≠ gb459))
     clear BK459
     clear HB
     have BK459 := n0_
     have HB := n1_
     have BK458 := n2_
     have GW458 := n3_
     have GE458 := n4_
     have NB459_458 := n5_
     have NB458_459 := n6_
     clear n0_ n1_ n2_ n3_ n4_ n5_ n6_
     clear hb hbox hg
     refine hK.out _ _ ⟨((HB.out.cell (World.block_lt_of_cell? w _ hw456_0)).trans hw456_0), ((HB.out.cell (World.block_lt_of_cell? w _ hw456_1)).trans hw456_1), ((HB.out.cell (World.block_lt_of_cell? w _ hw456_2)).trans hw456_2), ((HB.out.cell (World.block_lt_of_cell? w _ hw457_0)).trans hw457_0), ((HB.out.cell (World.block_lt_of_cell? w _ hw457_1)).trans hw457_1), ((HB.out.cell (World.block_lt_of_cell? w _ hw457_2)).trans hw457_2)⟩ (fun hHeld => ?_)
     clear hK K
     refine norm_ (a' := ?_) ?_ ?_
     rotate_left
     ·show Act.put _ (some 8) _ = _
      simp only [Act.put, List.setIfInBounds_toArray, List.set_cons_zero, List.set_cons_succ, i64_w, i32_w]
      rfl
     exact norm_ (by simp only [putAll, Act.put, List.setIfInBounds_toArray, List.set_cons_zero, List.set_cons_succ]) (hCont (gb458, gb459) _ ⟨hHeld, (by (with_reducible repeat (first | refine blk_drewN ?_ _ | refine blk_drew ?_ | refine blk_alloc ?_ _)); exact BK458.out), (by (with_reducible repeat (first | refine blk_drewN ?_ _ | refine blk_drew ?_ | refine blk_alloc ?_ _)); exact BK459.out), GW458.out, GE458.out, NB459_458.out, NB458_459.out, GW459.out, GE459.out, (by repeat (first | (with_reducible first | exact HB.out | apply below_alloc | apply pw_below_drewN | apply below_drew1 | refine below_set ?_ GE459.out | refine below_set ?_ GE458.out) | exact HB.out))⟩)
    rintro ⟨gb458, gb459⟩ w19 ⟨hS_, h0_, h1_, h2_, h3_, h4_, h5_, h6_, h7_, h8_⟩
    have n0_ : Aside0 (w19.heap[gb458]? = some (.cells #[.int .i64 0, .int .i64 0, .int .i64 0] 39 (0, 0))) := ⟨h0_⟩
    have n1_ : Aside0 (w19.heap[gb459]? = some (.cells #[.int .i64 0, .int .i64 0, .int .i64 0] 39 (0, 0))) := ⟨h1_⟩
    have n2_ : Aside0 (w.heap.size ≤ gb458) := ⟨h2_⟩
    have n3_ : Aside0 (w.heap.size ≤ gb458) := ⟨h3_⟩
    have n4_ : Aside0 (gb459 ≠ gb458) := ⟨h4_⟩
    have n5_ : Aside0 (gb458 ≠ gb459) := ⟨h5_⟩
    have n6_ : Aside0 (w.heap.size ≤ gb459) := ⟨h6_⟩
    have n7_ : Aside0 (w.heap.size ≤ gb459) := ⟨h7_⟩
    have n8_ : Aside0 (Below w.heap.size w w19) := ⟨h8_⟩
    clear HB
    clear h0_ h1_ h2_ h3_ h4_ h5_ h6_ h7_ h8_
    have BK458 := n0_
    have BK459 := n1_
    have GW458 := n2_
    have GE458 := n3_
    have NB459_458 := n4_
    have NB458_459 := n5_
    have GW459 := n6_
    have GE459 := n7_
    have HB := n8_
    clear n0_ n1_ n2_ n3_ n4_ n5_ n6_ n7_ n8_
    have hHeld : w19.cell? (ad456.add ((((rd_T23 l1 x5_1).f0)).toNat * 3)) = some (.int .i64 ((rd_T39 l0 ((rd_T23 l1 x5_1).f0)).f0)) ∧ w19.cell? ⟨(ad456.add ((((rd_T23 l1 x5_1).f0)).toNat * 3)).block, (ad456.add ((((rd_T23 l1 x5_1).f0)).toNat * 3)).off + 1, none⟩ = some (.int .i64 ((rd_T39 l0 ((rd_T23 l1 x5_1).f0)).f1)) ∧ w19.cell? ⟨(ad456.add ((((rd_T23 l1 x5_1).f0)).toNat * 3)).block, (ad456.add ((((rd_T23 l1 x5_1).f0)).toNat * 3)).off + 2, none⟩ = some (.int .i64 ((rd_T39 l0 ((rd_T23 l1 x5_1).f0)).f2)) ∧ w19.cell? (ad456.add ((((rd_T23 l1 x5_1).f1)).toNat * 3)) = some (.int .i64 ((rd_T39 l0 ((rd_T23 l1 x5_1).f1)).f0)) ∧ w19.cell? ⟨(ad456.add ((((rd_T23 l1 x5_1).f1)).toNat * 3)).block, (ad456.add ((((rd_T23 l1 x5_1).f1)).toNat * 3)).off + 1, none⟩ = some (.int .i64 ((rd_T39 l0 ((rd_T23 l1 x5_1).f1)).f1)) ∧ w19.cell? ⟨(ad456.add ((((rd_T23 l1 x5_1).f1)).toNat * 3)).block, (ad456.add ((((rd_T23 l1 x5_1).f1)).toNat * 3)).off + 2, none⟩ = some (.int .i64 ((rd_T39 l0 ((rd_T23 l1 x5_1).f1)).f2)) := hS_
    refine norm_ (a' := ?_) ?_ ?_
    rotate_left
    ·simp only [putAll, Act.put, List.setIfInBounds_toArray, List.set_cons_zero, List.set_cons_succ]
     rfl
    refine one_ (i := 10) (N := none) #[true, true, true, true, true, true, true, true, true, true, true, false] rfl rfl (one_of HT_.out (by kernel_rfl)) (by decide) (fun K hK => ?_)
    have hs20 : w19.cell? ⟨gb458, 0, none⟩ = some (.int .i64 0) := (blk_cell BK458.out 0).trans rfl
    have hfs20 := blk_frozen BK458.out 0
    have hns20_1 := NB459_458.out
    have hms20_1 := NB458_459.out
    have hs21 : w19.cell? ⟨gb458, 1, none⟩ = some (.int .i64 0) := (blk_cell BK458.out 1).trans rfl
    have hfs21 := blk_frozen BK458.out 1
    have hns21_1 := NB459_458.out
    have hms21_1 := NB458_459.out
    have hs22 : w19.cell? ⟨gb458, 2, none⟩ = some (.int .i64 0) := (blk_cell BK458.out 2).trans rfl
    have hfs22 := blk_frozen BK458.out 2
    have hns22_1 := NB459_458.out
    have hms22_1 := NB458_459.out
    refine skip_ (w1 := ?_) (by rfl) rfl ?_ ?_
    rotate_left
    ·go_simp
     rfl
    refine hK.out _ _ ⟨((cell_far (p := ⟨gb458, _, none⟩) (by first | exact Nat.ne_of_lt (Nat.lt_of_lt_of_le (by have := World.block_lt_of_cell? _ _ hw456_0; first | rwa [add_block] at this | exact this) GW458.out) | (rw [add_block]; exact Nat.ne_of_lt (Nat.lt_of_lt_of_le (by have := World.block_lt_of_cell? _ _ hw456_0; first | rwa [add_block] at this | exact this) GW458.out)) | (show (Addr.add _ _).block ≠ _; rw [add_block]; exact Nat.ne_of_lt (Nat.lt_of_lt_of_le (by have := World.block_lt_of_cell? _ _ hw456_0; first | rwa [add_block] at this | exact this) GW458.out)) | (dsimp only; exact Nat.ne_of_lt (Nat.lt_of_lt_of_le (by have := World.block_lt_of_cell? _ _ hw456_0; first | rwa [add_block] at this | exact this) GW458.out))) _).trans (((cell_far (p := ⟨gb458, _, none⟩) (by first | exact Nat.ne_of_lt (Nat.lt_of_lt_of_le (by have := World.block_lt_of_cell? _ _ hw456_0; first | rwa [add_block] at this | exact this) GW458.out) | (rw [add_block]; exact Nat.ne_of_lt (Nat.lt_of_lt_of_le (by have := World.block_lt_of_cell? _ _ hw456_0; first | rwa [add_block] at this | exact this) GW458.out)) | (show (Addr.add _ _).block ≠ _; rw [add_block]; exact Nat.ne_of_lt (Nat.lt_of_lt_of_le (by have := World.block_lt_of_cell? _ _ hw456_0; first | rwa [add_block] at this | exact this) GW458.out)) | (dsimp only; exact Nat.ne_of_lt (Nat.lt_of_lt_of_le (by have := World.block_lt_of_cell? _ _ hw456_0; first | rwa [add_block] at this | exact this) GW458.out))) _).trans (((cell_far (p := ⟨gb458, _, none⟩) (by first | exact Nat.ne_of_lt (Nat.lt_of_lt_of_le (by have := World.block_lt_of_cell? _ _ hw456_0; first | rwa [add_block] at this | exact this) GW458.out) | (rw [add_block]; exact Nat.ne_of_lt (Nat.lt_of_lt_of_le (by have := World.block_lt_of_cell? _ _ hw456_0; first | rwa [add_block] at this | exact this) GW458.out)) | (show (Addr.add _ _).block ≠ _; rw [add_block]; exact Nat.ne_of_lt (Nat.lt_of_lt_of_le (by have := World.block_lt_of_cell? _ _ hw456_0; first | rwa [add_block] at this | exact this) GW458.out)) | (dsimp only; exact Nat.ne_of_lt (Nat.lt_of_lt_of_le (by have := World.block_lt_of_cell? _ _ hw456_0; first | rwa [add_block] at this | exact this) GW458.out))) _).trans (hHeld.1)))))), ((cell_far (p := ⟨gb458, _, none⟩) (by first | exact Nat.ne_of_lt (Nat.lt_of_lt_of_le (by have := World.block_lt_of_cell? _ _ hw456_1; first | rwa [add_block] at this | exact this) GW458.out) | (rw [add_block]; exact Nat.ne_of_lt (Nat.lt_of_lt_of_le (by have := World.block_lt_of_cell? _ _ hw456_1; first | rwa [add_block] at this | exact this) GW458.out)) | (show (Addr.add _ _).block ≠ _; rw [add_block]; exact Nat.ne_of_lt (Nat.lt_of_lt_of_le (by have := World.block_lt_of_cell? _ _ hw456_1; first | rwa [add_block] at this | exact this) GW458.out)) | (dsimp only; exact Nat.ne_of_lt (Nat.lt_of_lt_of_le (by have := World.block_lt_of_cell? _ _ hw456_1; first | rwa [add_block] at this | exact this) GW458.out))) _).trans (((cell_far (p := ⟨gb458, _, none⟩) (by first | exact Nat.ne_of_lt (Nat.lt_of_lt_of_le (by have := World.block_lt_of_cell? _ _ hw456_1; first | rwa [add_block] at this | exact this) GW458.out) | (rw [add_block]; exact Nat.ne_of_lt (Nat.lt_of_lt_of_le (by have := World.block_lt_of_cell? _ _ hw456_1; first | rwa [add_block] at this | exact this) GW458.out)) | (show (Addr.add _ _).block ≠ _; rw [add_block]; exact Nat.ne_of_lt (Nat.lt_of_lt_of_le (by have := World.block_lt_of_cell? _ _ hw456_1; first | rwa [add_block] at this | exact this) GW458.out)) | (dsimp only; exact Nat.ne_of_lt (Nat.lt_of_lt_of_le (by have := World.block_lt_of_cell? _ _ hw456_1; first | rwa [add_block] at this | exact this) GW458.out))) _).trans (((cell_far (p := ⟨gb458, _, none⟩) (by first | exact Nat.ne_of_lt (Nat.lt_of_lt_of_le (by have := World.block_lt_of_cell? _ _ hw456_1; first | rwa [add_block] at this | exact this) GW458.out) | (rw [add_block]; exact Nat.ne_of_lt (Nat.lt_of_lt_of_le (by have := World.block_lt_of_cell? _ _ hw456_1; first | rwa [add_block] at this | exact this) GW458.out)) | (show (Addr.add _ _).block ≠ _; rw [add_block]; exact Nat.ne_of_lt (Nat.lt_of_lt_of_le (by have := World.block_lt_of_cell? _ _ hw456_1; first | rwa [add_block] at this | exact this) GW458.out)) | (dsimp only; exact Nat.ne_of_lt (Nat.lt_of_lt_of_le (by have := World.block_lt_of_cell? _ _ hw456_1; first | rwa [add_block] at this | exact this) GW458.out))) _).trans (hHeld.2.1)))))), ((cell_far (p := ⟨gb458, _, none⟩) (by first | exact Nat.ne_of_lt (Nat.lt_of_lt_of_le (by have := World.block_lt_of_cell? _ _ hw456_2; first | rwa [add_block] at this | exact this) GW458.out) | (rw [add_block]; exact Nat.ne_of_lt (Nat.lt_of_lt_of_le (by have := World.block_lt_of_cell? _ _ hw456_2; first | rwa [add_block] at this | exact this) GW458.out)) | (show (Addr.add _ _).block ≠ _; rw [add_block]; exact Nat.ne_of_lt (Nat.lt_of_lt_of_le (by have := World.block_lt_of_cell? _ _ hw456_2; first | rwa [add_block] at this | exact this) GW458.out)) | (dsimp only; exact Nat.ne_of_lt (Nat.lt_of_lt_of_le (by have := World.block_lt_of_cell? _ _ hw456_2; first | rwa [add_block] at this | exact this) GW458.out))) _).trans (((cell_far (p := ⟨gb458, _, none⟩) (by first | exact Nat.ne_of_lt (Nat.lt_of_lt_of_le (by have := World.block_lt_of_cell? _ _ hw456_2; first | rwa [add_block] at this | exact this) GW458.out) | (rw [add_block]; exact Nat.ne_of_lt (Nat.lt_of_lt_of_le (by have := World.block_lt_of_cell? _ _ hw456_2; first | rwa [add_block] at this | exact this) GW458.out)) | (show (Addr.add _ _).block ≠ _; rw [add_block]; exact Nat.ne_of_lt (Nat.lt_of_lt_of_le (by have := World.block_lt_of_cell? _ _ hw456_2; first | rwa [add_block] at this | exact this) GW458.out)) | (dsimp only; exact Nat.ne_of_lt (Nat.lt_of_lt_of_le (by have := World.block_lt_of_cell? _ _ hw456_2; first | rwa [add_block] at this | exact this) GW458.out))) _).trans (((cell_far (p := ⟨gb458, _, none⟩) (by first | exact Nat.ne_of_lt (Nat.lt_of_lt_of_le (by have := World.block_lt_of_cell? _ _ hw456_2; first | rwa [add_block] at this | exact this) GW458.out) | (rw [add_block]; exact Nat.ne_of_lt (Nat.lt_of_lt_of_le (by have := World.block_lt_of_cell? _ _ hw456_2; first | rwa [add_block] at this | exact this) GW458.out)) | (show (Addr.add _ _).block ≠ _; rw [add_block]; exact Nat.ne_of_lt (Nat.lt_of_lt_of_le (by have := World.block_lt_of_cell? _ _ hw456_2; first | rwa [add_block] at this | exact this) GW458.out)) | (dsimp only; exact Nat.ne_of_lt (Nat.lt_of_lt_of_le (by have := World.block_lt_of_cell? _ _ hw456_2; first | rwa [add_block] at this | exact this) GW458.out))) _).trans (hHeld.2.2.1)))))), ((cell_far (p := ⟨gb458, _, none⟩) (by first | exact Nat.ne_of_lt (Nat.lt_of_lt_of_le (by have := World.block_lt_of_cell? _ _ hw457_0; first | rwa [add_block] at this | exact this) GW458.out) | (rw [add_block]; exact Nat.ne_of_lt (Nat.lt_of_lt_of_le (by have := World.block_lt_of_cell? _ _ hw457_0; first | rwa [add_block] at this | exact this) GW458.out)) | (show (Addr.add _ _).block ≠ _; rw [add_block]; exact Nat.ne_of_lt (Nat.lt_of_lt_of_le (by have := World.block_lt_of_cell? _ _ hw457_0; first | rwa [add_block] at this | exact this) GW458.out)) | (dsimp only; exact Nat.ne_of_lt (Nat.lt_of_lt_of_le (by have := World.block_lt_of_cell? _ _ hw457_0; first | rwa [add_block] at this | exact this) GW458.out))) _).trans (((cell_far (p := ⟨gb458, _, none⟩) (by first | exact Nat.ne_of_lt (Nat.lt_of_lt_of_le (by have := World.block_lt_of_cell? _ _ hw457_0; first | rwa [add_block] at this | exact this) GW458.out) | (rw [add_block]; exact Nat.ne_of_lt (Nat.lt_of_lt_of_le (by have := World.block_lt_of_cell? _ _ hw457_0; first | rwa [add_block] at this | exact this) GW458.out)) | (show (Addr.add _ _).block ≠ _; rw [add_block]; exact Nat.ne_of_lt (Nat.lt_of_lt_of_le (by have := World.block_lt_of_cell? _ _ hw457_0; first | rwa [add_block] at this | exact this) GW458.out)) | (dsimp only; exact Nat.ne_of_lt (Nat.lt_of_lt_of_le (by have := World.block_lt_of_cell? _ _ hw457_0; first | rwa [add_block] at this | exact this) GW458.out))) _).trans (((cell_far (p := ⟨gb458, _, none⟩) (by first | exact Nat.ne_of_lt (Nat.lt_of_lt_of_le (by have := World.block_lt_of_cell? _ _ hw457_0; first | rwa [add_block] at this | exact this) GW458.out) | (rw [add_block]; exact Nat.ne_of_lt (Nat.lt_of_lt_of_le (by have := World.block_lt_of_cell? _ _ hw457_0; first | rwa [add_block] at this | exact this) GW458.out)) | (show (Addr.add _ _).block ≠ _; rw [add_block]; exact Nat.ne_of_lt (Nat.lt_of_lt_of_le (by have := World.block_lt_of_cell? _ _ hw457_0; first | rwa [add_block] at this | exact this) GW458.out)) | (dsimp only; exact Nat.ne_of_lt (Nat.lt_of_lt_of_le (by have := World.block_lt_of_cell? _ _ hw457_0; first | rwa [add_block] at this | exact this) GW458.out))) _).trans (hHeld.2.2.2.1)))))), ((cell_far (p := ⟨gb458, _, none⟩) (by first | exact Nat.ne_of_lt (Nat.lt_of_lt_of_le (by have := World.block_lt_of_cell? _ _ hw457_1; first | rwa [add_block] at this | exact this) GW458.out) | (rw [add_block]; exact Nat.ne_of_lt (Nat.lt_of_lt_of_le (by have := World.block_lt_of_cell? _ _ hw457_1; first | rwa [add_block] at this | exact this) GW458.out)) | (show (Addr.add _ _).block ≠ _; rw [add_block]; exact Nat.ne_of_lt (Nat.lt_of_lt_of_le (by have := World.block_lt_of_cell? _ _ hw457_1; first | rwa [add_block] at this | exact this) GW458.out)) | (dsimp only; exact Nat.ne_of_lt (Nat.lt_of_lt_of_le (by have := World.block_lt_of_cell? _ _ hw457_1; first | rwa [add_block] at this | exact this) GW458.out))) _).trans (((cell_far (p := ⟨gb458, _, none⟩) (by first | exact Nat.ne_of_lt (Nat.lt_of_lt_of_le (by have := World.block_lt_of_cell? _ _ hw457_1; first | rwa [add_block] at this | exact this) GW458.out) | (rw [add_block]; exact Nat.ne_of_lt (Nat.lt_of_lt_of_le (by have := World.block_lt_of_cell? _ _ hw457_1; first | rwa [add_block] at this | exact this) GW458.out)) | (show (Addr.add _ _).block ≠ _; rw [add_block]; exact Nat.ne_of_lt (Nat.lt_of_lt_of_le (by have := World.block_lt_of_cell? _ _ hw457_1; first | rwa [add_block] at this | exact this) GW458.out)) | (dsimp only; exact Nat.ne_of_lt (Nat.lt_of_lt_of_le (by have := World.block_lt_of_cell? _ _ hw457_1; first | rwa [add_block] at this | exact this) GW458.out))) _).trans (((cell_far (p := ⟨gb458, _, none⟩) (by first | exact Nat.ne_of_lt (Nat.lt_of_lt_of_le (by have := World.block_lt_of_cell? _ _ hw457_1; first | rwa [add_block] at this | exact this) GW458.out) | (rw [add_block]; exact Nat.ne_of_lt (Nat.lt_of_lt_of_le (by have := World.block_lt_of_cell? _ _ hw457_1; first | rwa [add_block] at this | exact this) GW458.out)) | (show (Addr.add _ _).block ≠ _; rw [add_block]; exact Nat.ne_of_lt (Nat.lt_of_lt_of_le (by have := World.block_lt_of_cell? _ _ hw457_1; first | rwa [add_block] at this | exact this) GW458.out)) | (dsimp only; exact Nat.ne_of_lt (Nat.lt_of_lt_of_le (by have := World.block_lt_of_cell? _ _ hw457_1; first | rwa [add_block] at this | exact this) GW458.out))) _).trans (hHeld.2.2.2.2.1)))))), ((cell_far (p := ⟨gb458, _, none⟩) (by first | exact Nat.ne_of_lt (Nat.lt_of_lt_of_le (by have := World.block_lt_of_cell? _ _ hw457_2; first | rwa [add_block] at this | exact this) GW458.out) | (rw [add_block]; exact Nat.ne_of_lt (Nat.lt_of_lt_of_le (by have := World.block_lt_of_cell? _ _ hw457_2; first | rwa [add_block] at this | exact this) GW458.out)) | (show (Addr.add _ _).block ≠ _; rw [add_block]; exact Nat.ne_of_lt (Nat.lt_of_lt_of_le (by have := World.block_lt_of_cell? _ _ hw457_2; first | rwa [add_block] at this | exact this) GW458.out)) | (dsimp only; exact Nat.ne_of_lt (Nat.lt_of_lt_of_le (by have := World.block_lt_of_cell? _ _ hw457_2; first | rwa [add_block] at this | exact this) GW458.out))) _).trans (((cell_far (p := ⟨gb458, _, none⟩) (by first | exact Nat.ne_of_lt (Nat.lt_of_lt_of_le (by have := World.block_lt_of_cell? _ _ hw457_2; first | rwa [add_block] at this | exact this) GW458.out) | (rw [add_block]; exact Nat.ne_of_lt (Nat.lt_of_lt_of_le (by have := World.block_lt_of_cell? _ _ hw457_2; first | rwa [add_block] at this | exact this) GW458.out)) | (show (Addr.add _ _).block ≠ _; rw [add_block]; exact Nat.ne_of_lt (Nat.lt_of_lt_of_le (by have := World.block_lt_of_cell? _ _ hw457_2; first | rwa [add_block] at this | exact this) GW458.out)) | (dsimp only; exact Nat.ne_of_lt (Nat.lt_of_lt_of_le (by have := World.block_lt_of_cell? _ _ hw457_2; first | rwa [add_block] at this | exact this) GW458.out))) _).trans (((cell_far (p := ⟨gb458, _, none⟩) (by first | exact Nat.ne_of_lt (Nat.lt_of_lt_of_le (by have := World.block_lt_of_cell? _ _ hw457_2; first | rwa [add_block] at this | exact this) GW458.out) | (rw [add_block]; exact Nat.ne_of_lt (Nat.lt_of_lt_of_le (by have := World.block_lt_of_cell? _ _ hw457_2; first | rwa [add_block] at this | exact this) GW458.out)) | (show (Addr.add _ _).block ≠ _; rw [add_block]; exact Nat.ne_of_lt (Nat.lt_of_lt_of_le (by have := World.block_lt_of_cell? _ _ hw457_2; first | rwa [add_block] at this | exact this) GW458.out)) | (dsimp only; exact Nat.ne_of_lt (Nat.lt_of_lt_of_le (by have := World.block_lt_of_cell? _ _ hw457_2; first | rwa [add_block] at this | exact this) GW458.out))) _).trans (hHeld.2.2.2.2.2))))))⟩ (fun hHeld => ?_)
    clear hK K
    refine one_ (i := 11) (N := none) #[true, true, true, true, true, true, true, true, true, true, true, true] rfl rfl (one_of HT_.out (by kernel_rfl)) (by decide) (fun K hK => ?_)
    have hs23 : w19.cell? ⟨gb459, 0, none⟩ = some (.int .i64 0) := (blk_cell BK459.out 0).trans rfl
    have hfs23 := blk_frozen BK459.out 0
    have hns23_0 := NB458_459.out
    have hms23_0 := NB459_458.out
    have hs24 : w19.cell? ⟨gb459, 1, none⟩ = some (.int .i64 0) := (blk_cell BK459.out 1).trans rfl
    have hfs24 := blk_frozen BK459.out 1
    have hns24_0 := NB458_459.out
    have hms24_0 := NB459_458.out
    have hs25 : w19.cell? ⟨gb459, 2, none⟩ = some (.int .i64 0) := (blk_cell BK459.out 2).trans rfl
    have hfs25 := blk_frozen BK459.out 2
    have hns25_0 := NB458_459.out
    have hms25_0 := NB459_458.out
    refine skip_ (w1 := ?_) (by rfl) rfl ?_ ?_
    rotate_left
    ·go_simp
     rfl
    refine hK.out _ _ ⟨((cell_far (p := ⟨gb459, _, none⟩) (by first | exact Nat.ne_of_lt (Nat.lt_of_lt_of_le (by have := World.block_lt_of_cell? _ _ hw456_0; first | rwa [add_block] at this | exact this) GW459.out) | (rw [add_block]; exact Nat.ne_of_lt (Nat.lt_of_lt_of_le (by have := World.block_lt_of_cell? _ _ hw456_0; first | rwa [add_block] at this | exact this) GW459.out)) | (show (Addr.add _ _).block ≠ _; rw [add_block]; exact Nat.ne_of_lt (Nat.lt_of_lt_of_le (by have := World.block_lt_of_cell? _ _ hw456_0; first | rwa [add_block] at this | exact this) GW459.out)) | (dsimp only; exact Nat.ne_of_lt (Nat.lt_of_lt_of_le (by have := World.block_lt_of_cell? _ _ hw456_0; first | rwa [add_block] at this | exact this) GW459.out))) _).trans (((cell_far (p := ⟨gb459, _, none⟩) (by first | exact Nat.ne_of_lt (Nat.lt_of_lt_of_le (by have := World.block_lt_of_cell? _ _ hw456_0; first | rwa [add_block] at this | exact this) GW459.out) | (rw [add_block]; exact Nat.ne_of_lt (Nat.lt_of_lt_of_le (by have := World.block_lt_of_cell? _ _ hw456_0; first | rwa [add_block] at this | exact this) GW459.out)) | (show (Addr.add _ _).block ≠ _; rw [add_block]; exact Nat.ne_of_lt (Nat.lt_of_lt_of_le (by have := World.block_lt_of_cell? _ _ hw456_0; first | rwa [add_block] at this | exact this) GW459.out)) | (dsimp only; exact Nat.ne_of_lt (Nat.lt_of_lt_of_le (by have := World.block_lt_of_cell? _ _ hw456_0; first | rwa [add_block] at this | exact this) GW459.out))) _).trans (((cell_far (p := ⟨gb459, _, none⟩) (by first | exact Nat.ne_of_lt (Nat.lt_of_lt_of_le (by have := World.block_lt_of_cell? _ _ hw456_0; first | rwa [add_block] at this | exact this) GW459.out) | (rw [add_block]; exact Nat.ne_of_lt (Nat.lt_of_lt_of_le (by have := World.block_lt_of_cell? _ _ hw456_0; first | rwa [add_block] at this | exact this) GW459.out)) | (show (Addr.add _ _).block ≠ _; rw [add_block]; exact Nat.ne_of_lt (Nat.lt_of_lt_of_le (by have := World.block_lt_of_cell? _ _ hw456_0; first | rwa [add_block] at this | exact this) GW459.out)) | (dsimp only; exact Nat.ne_of_lt (Nat.lt_of_lt_of_le (by have := World.block_lt_of_cell? _ _ hw456_0; first | rwa [add_block] at this | exact this) GW459.out))) _).trans (hHeld.1)))))), ((cell_far (p := ⟨gb459, _, none⟩) (by first | exact Nat.ne_of_lt (Nat.lt_of_lt_of_le (by have := World.block_lt_of_cell? _ _ hw456_1; first | rwa [add_block] at this | exact this) GW459.out) | (rw [add_block]; exact Nat.ne_of_lt (Nat.lt_of_lt_of_le (by have := World.block_lt_of_cell? _ _ hw456_1; first | rwa [add_block] at this | exact this) GW459.out)) | (show (Addr.add _ _).block ≠ _; rw [add_block]; exact Nat.ne_of_lt (Nat.lt_of_lt_of_le (by have := World.block_lt_of_cell? _ _ hw456_1; first | rwa [add_block] at this | exact this) GW459.out)) | (dsimp only; exact Nat.ne_of_lt (Nat.lt_of_lt_of_le (by have := World.block_lt_of_cell? _ _ hw456_1; first | rwa [add_block] at this | exact this) GW459.out))) _).trans (((cell_far (p := ⟨gb459, _, none⟩) (by first | exact Nat.ne_of_lt (Nat.lt_of_lt_of_le (by have := World.block_lt_of_cell? _ _ hw456_1; first | rwa [add_block] at this | exact this) GW459.out) | (rw [add_block]; exact Nat.ne_of_lt (Nat.lt_of_lt_of_le (by have := World.block_lt_of_cell? _ _ hw456_1; first | rwa [add_block] at this | exact this) GW459.out)) | (show (Addr.add _ _).block ≠ _; rw [add_block]; exact Nat.ne_of_lt (Nat.lt_of_lt_of_le (by have := World.block_lt_of_cell? _ _ hw456_1; first | rwa [add_block] at this | exact this) GW459.out)) | (dsimp only; exact Nat.ne_of_lt (Nat.lt_of_lt_of_le (by have := World.block_lt_of_cell? _ _ hw456_1; first | rwa [add_block] at this | exact this) GW459.out))) _).trans (((cell_far (p := ⟨gb459, _, none⟩) (by first | exact Nat.ne_of_lt (Nat.lt_of_lt_of_le (by have := World.block_lt_of_cell? _ _ hw456_1; first | rwa [add_block] at this | exact this) GW459.out) | (rw [add_block]; exact Nat.ne_of_lt (Nat.lt_of_lt_of_le (by have := World.block_lt_of_cell? _ _ hw456_1; first | rwa [add_block] at this | exact this) GW459.out)) | (show (Addr.add _ _).block ≠ _; rw [add_block]; exact Nat.ne_of_lt (Nat.lt_of_lt_of_le (by have := World.block_lt_of_cell? _ _ hw456_1; first | rwa [add_block] at this | exact this) GW459.out)) | (dsimp only; exact Nat.ne_of_lt (Nat.lt_of_lt_of_le (by have := World.block_lt_of_cell? _ _ hw456_1; first | rwa [add_block] at this | exact this) GW459.out))) _).trans (hHeld.2.1)))))), ((cell_far (p := ⟨gb459, _, none⟩) (by first | exact Nat.ne_of_lt (Nat.lt_of_lt_of_le (by have := World.block_lt_of_cell? _ _ hw456_2; first | rwa [add_block] at this | exact this) GW459.out) | (rw [add_block]; exact Nat.ne_of_lt (Nat.lt_of_lt_of_le (by have := World.block_lt_of_cell? _ _ hw456_2; first | rwa [add_block] at this | exact this) GW459.out)) | (show (Addr.add _ _).block ≠ _; rw [add_block]; exact Nat.ne_of_lt (Nat.lt_of_lt_of_le (by have := World.block_lt_of_cell? _ _ hw456_2; first | rwa [add_block] at this | exact this) GW459.out)) | (dsimp only; exact Nat.ne_of_lt (Nat.lt_of_lt_of_le (by have := World.block_lt_of_cell? _ _ hw456_2; first | rwa [add_block] at this | exact this) GW459.out))) _).trans (((cell_far (p := ⟨gb459, _, none⟩) (by first | exact Nat.ne_of_lt (Nat.lt_of_lt_of_le (by have := World.block_lt_of_cell? _ _ hw456_2; first | rwa [add_block] at this | exact this) GW459.out) | (rw [add_block]; exact Nat.ne_of_lt (Nat.lt_of_lt_of_le (by have := World.block_lt_of_cell? _ _ hw456_2; first | rwa [add_block] at this | exact this) GW459.out)) | (show (Addr.add _ _).block ≠ _; rw [add_block]; exact Nat.ne_of_lt (Nat.lt_of_lt_of_le (by have := World.block_lt_of_cell? _ _ hw456_2; first | rwa [add_block] at this | exact this) GW459.out)) | (dsimp only; exact Nat.ne_of_lt (Nat.lt_of_lt_of_le (by have := World.block_lt_of_cell? _ _ hw456_2; first | rwa [add_block] at this | exact this) GW459.out))) _).trans (((cell_far (p := ⟨gb459, _, none⟩) (by first | exact Nat.ne_of_lt (Nat.lt_of_lt_of_le (by have := World.block_lt_of_cell? _ _ hw456_2; first | rwa [add_block] at this | exact this) GW459.out) | (rw [add_block]; exact Nat.ne_of_lt (Nat.lt_of_lt_of_le (by have := World.block_lt_of_cell? _ _ hw456_2; first | rwa [add_block] at this | exact this) GW459.out)) | (show (Addr.add _ _).block ≠ _; rw [add_block]; exact Nat.ne_of_lt (Nat.lt_of_lt_of_le (by have := World.block_lt_of_cell? _ _ hw456_2; first | rwa [add_block] at this | exact this) GW459.out)) | (dsimp only; exact Nat.ne_of_lt (Nat.lt_of_lt_of_le (by have := World.block_lt_of_cell? _ _ hw456_2; first | rwa [add_block] at this | exact this) GW459.out))) _).trans (hHeld.2.2.1)))))), ((cell_far (p := ⟨gb459, _, none⟩) (by first | exact Nat.ne_of_lt (Nat.lt_of_lt_of_le (by have := World.block_lt_of_cell? _ _ hw457_0; first | rwa [add_block] at this | exact this) GW459.out) | (rw [add_block]; exact Nat.ne_of_lt (Nat.lt_of_lt_of_le (by have := World.block_lt_of_cell? _ _ hw457_0; first | rwa [add_block] at this | exact this) GW459.out)) | (show (Addr.add _ _).block ≠ _; rw [add_block]; exact Nat.ne_of_lt (Nat.lt_of_lt_of_le (by have := World.block_lt_of_cell? _ _ hw457_0; first | rwa [add_block] at this | exact this) GW459.out)) | (dsimp only; exact Nat.ne_of_lt (Nat.lt_of_lt_of_le (by have := World.block_lt_of_cell? _ _ hw457_0; first | rwa [add_block] at this | exact this) GW459.out))) _).trans (((cell_far (p := ⟨gb459, _, none⟩) (by first | exact Nat.ne_of_lt (Nat.lt_of_lt_of_le (by have := World.block_lt_of_cell? _ _ hw457_0; first | rwa [add_block] at this | exact this) GW459.out) | (rw [add_block]; exact Nat.ne_of_lt (Nat.lt_of_lt_of_le (by have := World.block_lt_of_cell? _ _ hw457_0; first | rwa [add_block] at this | exact this) GW459.out)) | (show (Addr.add _ _).block ≠ _; rw [add_block]; exact Nat.ne_of_lt (Nat.lt_of_lt_of_le (by have := World.block_lt_of_cell? _ _ hw457_0; first | rwa [add_block] at this | exact this) GW459.out)) | (dsimp only; exact Nat.ne_of_lt (Nat.lt_of_lt_of_le (by have := World.block_lt_of_cell? _ _ hw457_0; first | rwa [add_block] at this | exact this) GW459.out))) _).trans (((cell_far (p := ⟨gb459, _, none⟩) (by first | exact Nat.ne_of_lt (Nat.lt_of_lt_of_le (by have := World.block_lt_of_cell? _ _ hw457_0; first | rwa [add_block] at this | exact this) GW459.out) | (rw [add_block]; exact Nat.ne_of_lt (Nat.lt_of_lt_of_le (by have := World.block_lt_of_cell? _ _ hw457_0; first | rwa [add_block] at this | exact this) GW459.out)) | (show (Addr.add _ _).block ≠ _; rw [add_block]; exact Nat.ne_of_lt (Nat.lt_of_lt_of_le (by have := World.block_lt_of_cell? _ _ hw457_0; first | rwa [add_block] at this | exact this) GW459.out)) | (dsimp only; exact Nat.ne_of_lt (Nat.lt_of_lt_of_le (by have := World.block_lt_of_cell? _ _ hw457_0; first | rwa [add_block] at this | exact this) GW459.out))) _).trans (hHeld.2.2.2.1)))))), ((cell_far (p := ⟨gb459, _, none⟩) (by first | exact Nat.ne_of_lt (Nat.lt_of_lt_of_le (by have := World.block_lt_of_cell? _ _ hw457_1; first | rwa [add_block] at this | exact this) GW459.out) | (rw [add_block]; exact Nat.ne_of_lt (Nat.lt_of_lt_of_le (by have := World.block_lt_of_cell? _ _ hw457_1; first | rwa [add_block] at this | exact this) GW459.out)) | (show (Addr.add _ _).block ≠ _; rw [add_block]; exact Nat.ne_of_lt (Nat.lt_of_lt_of_le (by have := World.block_lt_of_cell? _ _ hw457_1; first | rwa [add_block] at this | exact this) GW459.out)) | (dsimp only; exact Nat.ne_of_lt (Nat.lt_of_lt_of_le (by have := World.block_lt_of_cell? _ _ hw457_1; first | rwa [add_block] at this | exact this) GW459.out))) _).trans (((cell_far (p := ⟨gb459, _, none⟩) (by first | exact Nat.ne_of_lt (Nat.lt_of_lt_of_le (by have := World.block_lt_of_cell? _ _ hw457_1; first | rwa [add_block] at this | exact this) GW459.out) | (rw [add_block]; exact Nat.ne_of_lt (Nat.lt_of_lt_of_le (by have := World.block_lt_of_cell? _ _ hw457_1; first | rwa [add_block] at this | exact this) GW459.out)) | (show (Addr.add _ _).block ≠ _; rw [add_block]; exact Nat.ne_of_lt (Nat.lt_of_lt_of_le (by have := World.block_lt_of_cell? _ _ hw457_1; first | rwa [add_block] at this | exact this) GW459.out)) | (dsimp only; exact Nat.ne_of_lt (Nat.lt_of_lt_of_le (by have := World.block_lt_of_cell? _ _ hw457_1; first | rwa [add_block] at this | exact this) GW459.out))) _).trans (((cell_far (p := ⟨gb459, _, none⟩) (by first | exact Nat.ne_of_lt (Nat.lt_of_lt_of_le (by have := World.block_lt_of_cell? _ _ hw457_1; first | rwa [add_block] at this | exact this) GW459.out) | (rw [add_block]; exact Nat.ne_of_lt (Nat.lt_of_lt_of_le (by have := World.block_lt_of_cell? _ _ hw457_1; first | rwa [add_block] at this | exact this) GW459.out)) | (show (Addr.add _ _).block ≠ _; rw [add_block]; exact Nat.ne_of_lt (Nat.lt_of_lt_of_le (by have := World.block_lt_of_cell? _ _ hw457_1; first | rwa [add_block] at this | exact this) GW459.out)) | (dsimp only; exact Nat.ne_of_lt (Nat.lt_of_lt_of_le (by have := World.block_lt_of_cell? _ _ hw457_1; first | rwa [add_block] at this | exact this) GW459.out))) _).trans (hHeld.2.2.2.2.1)))))), ((cell_far (p := ⟨gb459, _, none⟩) (by first | exact Nat.ne_of_lt (Nat.lt_of_lt_of_le (by have := World.block_lt_of_cell? _ _ hw457_2; first | rwa [add_block] at this | exact this) GW459.out) | (rw [add_block]; exact Nat.ne_of_lt (Nat.lt_of_lt_of_le (by have := World.block_lt_of_cell? _ _ hw457_2; first | rwa [add_block] at this | exact this) GW459.out)) | (show (Addr.add _ _).block ≠ _; rw [add_block]; exact Nat.ne_of_lt (Nat.lt_of_lt_of_le (by have := World.block_lt_of_cell? _ _ hw457_2; first | rwa [add_block] at this | exact this) GW459.out)) | (dsimp only; exact Nat.ne_of_lt (Nat.lt_of_lt_of_le (by have := World.block_lt_of_cell? _ _ hw457_2; first | rwa [add_block] at this | exact this) GW459.out))) _).trans (((cell_far (p := ⟨gb459, _, none⟩) (by first | exact Nat.ne_of_lt (Nat.lt_of_lt_of_le (by have := World.block_lt_of_cell? _ _ hw457_2; first | rwa [add_block] at this | exact this) GW459.out) | (rw [add_block]; exact Nat.ne_of_lt (Nat.lt_of_lt_of_le (by have := World.block_lt_of_cell? _ _ hw457_2; first | rwa [add_block] at this | exact this) GW459.out)) | (show (Addr.add _ _).block ≠ _; rw [add_block]; exact Nat.ne_of_lt (Nat.lt_of_lt_of_le (by have := World.block_lt_of_cell? _ _ hw457_2; first | rwa [add_block] at this | exact this) GW459.out)) | (dsimp only; exact Nat.ne_of_lt (Nat.lt_of_lt_of_le (by have := World.block_lt_of_cell? _ _ hw457_2; first | rwa [add_block] at this | exact this) GW459.out))) _).trans (((cell_far (p := ⟨gb459, _, none⟩) (by first | exact Nat.ne_of_lt (Nat.lt_of_lt_of_le (by have := World.block_lt_of_cell? _ _ hw457_2; first | rwa [add_block] at this | exact this) GW459.out) | (rw [add_block]; exact Nat.ne_of_lt (Nat.lt_of_lt_of_le (by have := World.block_lt_of_cell? _ _ hw457_2; first | rwa [add_block] at this | exact this) GW459.out)) | (show (Addr.add _ _).block ≠ _; rw [add_block]; exact Nat.ne_of_lt (Nat.lt_of_lt_of_le (by have := World.block_lt_of_cell? _ _ hw457_2; first | rwa [add_block] at this | exact this) GW459.out)) | (dsimp only; exact Nat.ne_of_lt (Nat.lt_of_lt_of_le (by have := World.block_lt_of_cell? _ _ hw457_2; first | rwa [add_block] at this | exact this) GW459.out))) _).trans (hHeld.2.2.2.2.2))))))⟩ (fun hHeld => ?_)
    clear hK K
    refine done_ (done_of HT_.out (by kernel_rfl)) ?_
    go_upto_region 8 with (fail)
    go_cut [71] (fun v71 wc => ∃ (kq : Nat) (x71_14 : Bool), v71 = .bool x71_14 ∧ Aside0 (tickingref06_Closed.j2 kq l0 l1 x5_1 x71_14 ((rd_T39 l0 ((rd_T23 l1 x5_1).f0)).f0) ((rd_T39 l0 ((rd_T23 l1 x5_1).f0)).f1) ((rd_T39 l0 ((rd_T23 l1 x5_1).f0)).f2) ((rd_T39 l0 ((rd_T23 l1 x5_1).f1)).f0) ((rd_T39 l0 ((rd_T23 l1 x5_1).f1)).f1) ((rd_T39 l0 ((rd_T23 l1 x5_1).f1)).f2) = some r) ∧ Aside0 (kq ≤ kj4) ∧ Aside0 (wc.heap[gb458]? = some (.cells #[.int .i64 ((rd_T39 l0 ((rd_T23 l1 x5_1).f0)).f0), .int .i64 ((rd_T39 l0 ((rd_T23 l1 x5_1).f0)).f1), .int .i64 ((rd_T39 l0 ((rd_T23 l1 x5_1).f0)).f2)] 39 (0, 0))) ∧ Aside0 (wc.heap[gb459]? = some (.cells #[.int .i64 ((rd_T39 l0 ((rd_T23 l1 x5_1).f1)).f0), .int .i64 ((rd_T39 l0 ((rd_T23 l1 x5_1).f1)).f1), .int .i64 ((rd_T39 l0 ((rd_T23 l1 x5_1).f1)).f2)] 39 (0, 0))) ∧ Aside0 (Below w.heap.size w wc))
    case first =>
     have H := HC15.out
     clear HC15
     by_cases c26 : ((rd_T39 l0 ((rd_T23 l1 x5_1).f0)).f0) = 0
     ·rw [if_pos c26] at H
      have c26b0 : (((rd_T39 l0 ((rd_T23 l1 x5_1).f0)).f0) == 0) = true := beq_iff_eq.mpr c26
      have c26b1 : (((rd_T39 l0 ((rd_T23 l1 x5_1).f0)).f0) != 0) = false := bne_eq_false_iff_eq.mpr c26
      clear c26
      (first | rw [c26b0] | (simp only [i64_w, i32_w]; rw [c26b0]) | skip)
      have H' := Aside0.mk H
      clear H
      have hnb27 := NB458_459.out
      have hnc27 := NB459_458.out
      have hcz28_0 : w19.cell? ⟨gb458, 0, none⟩ = some (.int .i64 0) := (blk_cell BK458.out 0).trans rfl
      have hcz28_1 : w19.cell? ⟨gb458, 1, none⟩ = some (.int .i64 0) := (blk_cell BK458.out 1).trans rfl
      have hcz28_2 : w19.cell? ⟨gb458, 2, none⟩ = some (.int .i64 0) := (blk_cell BK458.out 2).trans rfl
      have hfz28_0 := blk_frozen BK458.out 0
      have hfz28_1 := blk_frozen BK458.out 1
      have hfz28_2 := blk_frozen BK458.out 2
      go_wp2
      go_meet
      exact ⟨_, (true), (by first | rfl | (simp; done) | (simp [*]; done)), H', ⟨by have := HK1.out; have := HJ4.out; first | omega | exact Nat.le_refl _⟩, ⟨by (with_reducible repeat (first | refine blk_drewN ?_ _ | refine blk_drew ?_ | refine blk_alloc ?_ _)); refine blk_far ?_ NB458_459.out _; (with_reducible repeat (first | refine blk_drewN ?_ _ | refine blk_drew ?_ | refine blk_alloc ?_ _)); refine blk_far ?_ NB458_459.out _; (with_reducible repeat (first | refine blk_drewN ?_ _ | refine blk_drew ?_ | refine blk_alloc ?_ _)); refine blk_far ?_ NB458_459.out _; (with_reducible repeat (first | refine blk_drewN ?_ _ | refine blk_drew ?_ | refine blk_alloc ?_ _)); refine blk_put (cs := #[.int .i64 ((rd_T39 l0 ((rd_T23 l1 x5_1).f0)).f0), .int .i64 ((rd_T39 l0 ((rd_T23 l1 x5_1).f0)).f1), .int .i64 0]) ?_ 2 _ rfl; (with_reducible repeat (first | refine blk_drewN ?_ _ | refine blk_drew ?_ | refine blk_alloc ?_ _)); refine blk_put (cs := #[.int .i64 ((rd_T39 l0 ((rd_T23 l1 x5_1).f0)).f0), .int .i64 0, .int .i64 0]) ?_ 1 _ rfl; (with_reducible repeat (first | refine blk_drewN ?_ _ | refine blk_drew ?_ | refine blk_alloc ?_ _)); refine blk_put (cs := #[.int .i64 0, .int .i64 0, .int .i64 0]) ?_ 0 _ rfl; (with_reducible repeat (first | refine blk_drewN ?_ _ | refine blk_drew ?_ | refine blk_alloc ?_ _)); exact BK458.out⟩, ⟨by (with_reducible repeat (first | refine blk_drewN ?_ _ | refine blk_drew ?_ | refine blk_alloc ?_ _)); refine blk_put (cs := #[.int .i64 ((rd_T39 l0 ((rd_T23 l1 x5_1).f1)).f0), .int .i64 ((rd_T39 l0 ((rd_T23 l1 x5_1).f1)).f1), .int .i64 0]) ?_ 2 _ rfl; (with_reducible repeat (first | refine blk_drewN ?_ _ | refine blk_drew ?_ | refine blk_alloc ?_ _)); refine blk_put (cs := #[.int .i64 ((rd_T39 l0 ((rd_T23 l1 x5_1).f1)).f0), .int .i64 0, .int .i64 0]) ?_ 1 _ rfl; (with_reducible repeat (first | refine blk_drewN ?_ _ | refine blk_drew ?_ | refine blk_alloc ?_ _)); refine blk_put (cs := #[.int .i64 0, .int .i64 0, .int .i64 0]) ?_ 0 _ rfl; (with_reducible repeat (first | refine blk_drewN ?_ _ | refine blk_drew ?_ | refine blk_alloc ?_ _)); refine blk_far ?_ NB459_458.out _; (with_reducible repeat (first | refine blk_drewN ?_ _ | refine blk_drew ?_ | refine blk_alloc ?_ _)); refine blk_far ?_ NB459_458.out _; (with_reducible repeat (first | refine blk_drewN ?_ _ | refine blk_drew ?_ | refine blk_alloc ?_ _)); refine blk_far ?_ NB459_458.out _; (with_reducible repeat (first | refine blk_drewN ?_ _ | refine blk_drew ?_ | refine blk_alloc ?_ _)); exact BK459.out⟩, ⟨by repeat (first | (with_reducible first | exact HB.out | apply below_alloc | apply pw_below_drewN | apply below_drew1 | refine below_set ?_ GE458.out | refine below_set ?_ GE459.out) | exact HB.out)⟩⟩
     rw [if_neg c26] at H
     have c26b0 : (((rd_T39 l0 ((rd_T23 l1 x5_1).f0)).f0) == 0) = false := beq_eq_false_iff_ne.mpr c26
     have c26b1 : (((rd_T39 l0 ((rd_T23 l1 x5_1).f0)).f0) != 0) = true := bne_iff_ne.mpr c26
     (first | rw [c26b0] | (simp only [i64_w, i32_w]; rw [c26b0]) | skip)
     by_cases c29 : ((rd_T39 l0 ((rd_T23 l1 x5_1).f1)).f0) = 1
     ·rw [if_pos c29] at H
      have c29b0 : (((rd_T39 l0 ((rd_T23 l1 x5_1).f1)).f0) == 1) = true := beq_iff_eq.mpr c29
      have c29b1 : (((rd_T39 l0 ((rd_T23 l1 x5_1).f1)).f0) != 1) = false := bne_eq_false_iff_eq.mpr c29
      clear c29
      have H' := Aside0.mk H
      clear H
      have hnb30 := NB458_459.out
      have hnc30 := NB459_458.out
      have hcz31_0 : w19.cell? ⟨gb458, 0, none⟩ = some (.int .i64 0) := (blk_cell BK458.out 0).trans rfl
      have hcz31_1 : w19.cell? ⟨gb458, 1, none⟩ = some (.int .i64 0) := (blk_cell BK458.out 1).trans rfl
      have hcz31_2 : w19.cell? ⟨gb458, 2, none⟩ = some (.int .i64 0) := (blk_cell BK458.out 2).trans rfl
      have hfz31_0 := blk_frozen BK458.out 0
      have hfz31_1 := blk_frozen BK458.out 1
      have hfz31_2 := blk_frozen BK458.out 2
      have hcz32_0 : w19.cell? ⟨gb459, 0, none⟩ = some (.int .i64 0) := (blk_cell BK459.out 0).trans rfl
      have hcz32_1 : w19.cell? ⟨gb459, 1, none⟩ = some (.int .i64 0) := (blk_cell BK459.out 1).trans rfl
      have hcz32_2 : w19.cell? ⟨gb459, 2, none⟩ = some (.int .i64 0) := (blk_cell BK459.out 2).trans rfl
      have hfz32_0 := blk_frozen BK459.out 0
      have hfz32_1 := blk_frozen BK459.out 1
      have hfz32_2 := blk_frozen BK459.out 2
      go_wp2
      go_meet
      exact ⟨_, (true), (by first | rfl | (simp; done) | (simp [*]; done)), H', ⟨by have := HK1.out; have := HJ4.out; first | omega | exact Nat.le_refl _⟩, ⟨by (with_reducible repeat (first | refine blk_drewN ?_ _ | refine blk_drew ?_ | refine blk_alloc ?_ _)); refine blk_far ?_ NB458_459.out _; (with_reducible repeat (first | refine blk_drewN ?_ _ | refine blk_drew ?_ | refine blk_alloc ?_ _)); refine blk_far ?_ NB458_459.out _; (with_reducible repeat (first | refine blk_drewN ?_ _ | refine blk_drew ?_ | refine blk_alloc ?_ _)); refine blk_far ?_ NB458_459.out _; (with_reducible repeat (first | refine blk_drewN ?_ _ | refine blk_drew ?_ | refine blk_alloc ?_ _)); refine blk_put (cs := #[.int .i64 ((rd_T39 l0 ((rd_T23 l1 x5_1).f0)).f0), .int .i64 ((rd_T39 l0 ((rd_T23 l1 x5_1).f0)).f1), .int .i64 0]) ?_ 2 _ rfl; (with_reducible repeat (first | refine blk_drewN ?_ _ | refine blk_drew ?_ | refine blk_alloc ?_ _)); refine blk_put (cs := #[.int .i64 ((rd_T39 l0 ((rd_T23 l1 x5_1).f0)).f0), .int .i64 0, .int .i64 0]) ?_ 1 _ rfl; (with_reducible repeat (first | refine blk_drewN ?_ _ | refine blk_drew ?_ | refine blk_alloc ?_ _)); refine blk_put (cs := #[.int .i64 0, .int .i64 0, .int .i64 0]) ?_ 0 _ rfl; (with_reducible repeat (first | refine blk_drewN ?_ _ | refine blk_drew ?_ | refine blk_alloc ?_ _)); exact BK458.out⟩, ⟨by (with_reducible repeat (first | refine blk_drewN ?_ _ | refine blk_drew ?_ | refine blk_alloc ?_ _)); refine blk_put (cs := #[.int .i64 ((rd_T39 l0 ((rd_T23 l1 x5_1).f1)).f0), .int .i64 ((rd_T39 l0 ((rd_T23 l1 x5_1).f1)).f1), .int .i64 0]) ?_ 2 _ rfl; (with_reducible repeat (first | refine blk_drewN ?_ _ | refine blk_drew ?_ | refine blk_alloc ?_ _)); refine blk_put (cs := #[.int .i64 ((rd_T39 l0 ((rd_T23 l1 x5_1).f1)).f0), .int .i64 0, .int .i64 0]) ?_ 1 _ rfl; (with_reducible repeat (first | refine blk_drewN ?_ _ | refine blk_drew ?_ | refine blk_alloc ?_ _)); refine blk_put (cs := #[.int .i64 0, .int .i64 0, .int .i64 0]) ?_ 0 _ rfl; (with_reducible repeat (first | refine blk_drewN ?_ _ | refine blk_drew ?_ | refine blk_alloc ?_ _)); refine blk_far ?_ NB459_458.out _; (with_reducible repeat (first | refine blk_drewN ?_ _ | refine blk_drew ?_ | refine blk_alloc ?_ _)); refine blk_far ?_ NB459_458.out _; (with_reducible repeat (first | refine blk_drewN ?_ _ | refine blk_drew ?_ | refine blk_alloc ?_ _)); refine blk_far ?_ NB459_458.out _; (with_reducible repeat (first | refine blk_drewN ?_ _ | refine blk_drew ?_ | refine blk_alloc ?_ _)); exact BK459.out⟩, ⟨by repeat (first | (with_reducible first | exact HB.out | apply below_alloc | apply pw_below_drewN | apply below_drew1 | refine below_set ?_ GE458.out | refine below_set ?_ GE459.out) | exact HB.out)⟩⟩
     rw [if_neg c29] at H
     have c29b0 : (((rd_T39 l0 ((rd_T23 l1 x5_1).f1)).f0) == 1) = false := beq_eq_false_iff_ne.mpr c29
     have c29b1 : (((rd_T39 l0 ((rd_T23 l1 x5_1).f1)).f0) != 1) = true := bne_iff_ne.mpr c29
     by_cases c33 : ((rd_T39 l0 ((rd_T23 l1 x5_1).f0)).f0) = ((rd_T39 l0 ((rd_T23 l1 x5_1).f1)).f0)
     rotate_left
     ·rw [if_neg c33] at H
      have c33b0 : (((rd_T39 l0 ((rd_T23 l1 x5_1).f0)).f0) == ((rd_T39 l0 ((rd_T23 l1 x5_1).f1)).f0)) = false := beq_eq_false_iff_ne.mpr c33
      have c33b1 : (((rd_T39 l0 ((rd_T23 l1 x5_1).f0)).f0) != ((rd_T39 l0 ((rd_T23 l1 x5_1).f1)).f0)) = true := bne_iff_ne.mpr c33
      have H' := Aside0.mk H
      clear H
      have hnb37 := NB458_459.out
      have hnc37 := NB459_458.out
      have hcz38_0 : w19.cell? ⟨gb458, 0, none⟩ = some (.int .i64 0) := (blk_cell BK458.out 0).trans rfl
      have hcz38_1 : w19.cell? ⟨gb458, 1, none⟩ = some (.int .i64 0) := (blk_cell BK458.out 1).trans rfl
      have hcz38_2 : w19.cell? ⟨gb458, 2, none⟩ = some (.int .i64 0) := (blk_cell BK458.out 2).trans rfl
      have hfz38_0 := blk_frozen BK458.out 0
      have hfz38_1 := blk_frozen BK458.out 1
      have hfz38_2 := blk_frozen BK458.out 2
      have hcz39_0 : w19.cell? ⟨gb459, 0, none⟩ = some (.int .i64 0) := (blk_cell BK459.out 0).trans rfl
      have hcz39_1 : w19.cell? ⟨gb459, 1, none⟩ = some (.int .i64 0) := (blk_cell BK459.out 1).trans rfl
      have hcz39_2 : w19.cell? ⟨gb459, 2, none⟩ = some (.int .i64 0) := (blk_cell BK459.out 2).trans rfl
      have hfz39_0 := blk_frozen BK459.out 0
      have hfz39_1 := blk_frozen BK459.out 1
      have hfz39_2 := blk_frozen BK459.out 2
      go_wp2
      go_meet
      exact ⟨_, (false), (by first | rfl | (simp; done) | (simp [*]; done)), H', ⟨by have := HK1.out; have := HJ4.out; first | omega | exact Nat.le_refl _⟩, ⟨by (with_reducible repeat (first | refine blk_drewN ?_ _ | refine blk_drew ?_ | refine blk_alloc ?_ _)); refine blk_far ?_ NB458_459.out _; (with_reducible repeat (first | refine blk_drewN ?_ _ | refine blk_drew ?_ | refine blk_alloc ?_ _)); refine blk_far ?_ NB458_459.out _; (with_reducible repeat (first | refine blk_drewN ?_ _ | refine blk_drew ?_ | refine blk_alloc ?_ _)); refine blk_far ?_ NB458_459.out _; (with_reducible repeat (first | refine blk_drewN ?_ _ | refine blk_drew ?_ | refine blk_alloc ?_ _)); refine blk_put (cs := #[.int .i64 ((rd_T39 l0 ((rd_T23 l1 x5_1).f0)).f0), .int .i64 ((rd_T39 l0 ((rd_T23 l1 x5_1).f0)).f1), .int .i64 0]) ?_ 2 _ rfl; (with_reducible repeat (first | refine blk_drewN ?_ _ | refine blk_drew ?_ | refine blk_alloc ?_ _)); refine blk_put (cs := #[.int .i64 ((rd_T39 l0 ((rd_T23 l1 x5_1).f0)).f0), .int .i64 0, .int .i64 0]) ?_ 1 _ rfl; (with_reducible repeat (first | refine blk_drewN ?_ _ | refine blk_drew ?_ | refine blk_alloc ?_ _)); refine blk_put (cs := #[.int .i64 0, .int .i64 0, .int .i64 0]) ?_ 0 _ rfl; (with_reducible repeat (first | refine blk_drewN ?_ _ | refine blk_drew ?_ | refine blk_alloc ?_ _)); exact BK458.out⟩, ⟨by (with_reducible repeat (first | refine blk_drewN ?_ _ | refine blk_drew ?_ | refine blk_alloc ?_ _)); refine blk_put (cs := #[.int .i64 ((rd_T39 l0 ((rd_T23 l1 x5_1).f1)).f0), .int .i64 ((rd_T39 l0 ((rd_T23 l1 x5_1).f1)).f1), .int .i64 0]) ?_ 2 _ rfl; (with_reducible repeat (first | refine blk_drewN ?_ _ | refine blk_drew ?_ | refine blk_alloc ?_ _)); refine blk_put (cs := #[.int .i64 ((rd_T39 l0 ((rd_T23 l1 x5_1).f1)).f0), .int .i64 0, .int .i64 0]) ?_ 1 _ rfl; (with_reducible repeat (first | refine blk_drewN ?_ _ | refine blk_drew ?_ | refine blk_alloc ?_ _)); refine blk_put (cs := #[.int .i64 0, .int .i64 0, .int .i64 0]) ?_ 0 _ rfl; (with_reducible repeat (first | refine blk_drewN ?_ _ | refine blk_drew ?_ | refine blk_alloc ?_ _)); refine blk_far ?_ NB459_458.out _; (with_reducible repeat (first | refine blk_drewN ?_ _ | refine blk_drew ?_ | refine blk_alloc ?_ _)); refine blk_far ?_ NB459_458.out _; (with_reducible repeat (first | refine blk_drewN ?_ _ | refine blk_drew ?_ | refine blk_alloc ?_ _)); refine blk_far ?_ NB459_458.out _; (with_reducible repeat (first | refine blk_drewN ?_ _ | refine blk_drew ?_ | refine blk_alloc ?_ _)); exact BK459.out⟩, ⟨by repeat (first | (with_reducible first | exact HB.out | apply below_alloc | apply pw_below_drewN | apply below_drew1 | refine below_set ?_ GE458.out | refine below_set ?_ GE459.out) | exact HB.out)⟩⟩
     rw [if_pos c33] at H
     have c33b0 : (((rd_T39 l0 ((rd_T23 l1 x5_1).f0)).f0) == ((rd_T39 l0 ((rd_T23 l1 x5_1).f1)).f0)) = true := beq_iff_eq.mpr c33
     have c33b1 : (((rd_T39 l0 ((rd_T23 l1 x5_1).f0)).f0) != ((rd_T39 l0 ((rd_T23 l1 x5_1).f1)).f0)) = false := bne_eq_false_iff_eq.mpr c33
     clear c33
     have H' := Aside0.mk H
     clear H
     have hnb34 := NB458_459.out
     have hnc34 := NB459_458.out
     have hcz35_0 : w19.cell? ⟨gb458, 0, none⟩ = some (.int .i64 0) := (blk_cell BK458.out 0).trans rfl
     have hcz35_1 : w19.cell? ⟨gb458, 1, none⟩ = some (.int .i64 0) := (blk_cell BK458.out 1).trans rfl
     have hcz35_2 : w19.cell? ⟨gb458, 2, none⟩ = some (.int .i64 0) := (blk_cell BK458.out 2).trans rfl
     have hfz35_0 := blk_frozen BK458.out 0
     have hfz35_1 := blk_frozen BK458.out 1
     have hfz35_2 := blk_frozen BK458.out 2
     have hcz36_0 : w19.cell? ⟨gb459, 0, none⟩ = some (.int .i64 0) := (blk_cell BK459.out 0).trans rfl
     have hcz36_1 : w19.cell? ⟨gb459, 1, none⟩ = some (.int .i64 0) := (blk_cell BK459.out 1).trans rfl
     have hcz36_2 : w19.cell? ⟨gb459, 2, none⟩ = some (.int .i64 0) := (blk_cell BK459.out 2).trans rfl
     have hfz36_0 := blk_frozen BK459.out 0
     have hfz36_1 := blk_frozen BK459.out 1
     have hfz36_2 := blk_frozen BK459.out 2
     go_wp2
     go_meet
     exact ⟨_, (decide (((rd_T39 l0 ((rd_T23 l1 x5_1).f0)).f0) < 4)), (by first | rfl | (simp; done) | (simp [*]; done)), H', ⟨by have := HK1.out; have := HJ4.out; first | omega | exact Nat.le_refl _⟩, ⟨by (with_reducible repeat (first | refine blk_drewN ?_ _ | refine blk_drew ?_ | refine blk_alloc ?_ _)); refine blk_far ?_ NB458_459.out _; (with_reducible repeat (first | refine blk_drewN ?_ _ | refine blk_drew ?_ | refine blk_alloc ?_ _)); refine blk_far ?_ NB458_459.out _; (with_reducible repeat (first | refine blk_drewN ?_ _ | refine blk_drew ?_ | refine blk_alloc ?_ _)); refine blk_far ?_ NB458_459.out _; (with_reducible repeat (first | refine blk_drewN ?_ _ | refine blk_drew ?_ | refine blk_alloc ?_ _)); refine blk_put (cs := #[.int .i64 ((rd_T39 l0 ((rd_T23 l1 x5_1).f0)).f0), .int .i64 ((rd_T39 l0 ((rd_T23 l1 x5_1).f0)).f1), .int .i64 0]) ?_ 2 _ rfl; (with_reducible repeat (first | refine blk_drewN ?_ _ | refine blk_drew ?_ | refine blk_alloc ?_ _)); refine blk_put (cs := #[.int .i64 ((rd_T39 l0 ((rd_T23 l1 x5_1).f0)).f0), .int .i64 0, .int .i64 0]) ?_ 1 _ rfl; (with_reducible repeat (first | refine blk_drewN ?_ _ | refine blk_drew ?_ | refine blk_alloc ?_ _)); refine blk_put (cs := #[.int .i64 0, .int .i64 0, .int .i64 0]) ?_ 0 _ rfl; (with_reducible repeat (first | refine blk_drewN ?_ _ | refine blk_drew ?_ | refine blk_alloc ?_ _)); exact BK458.out⟩, ⟨by (with_reducible repeat (first | refine blk_drewN ?_ _ | refine blk_drew ?_ | refine blk_alloc ?_ _)); refine blk_put (cs := #[.int .i64 ((rd_T39 l0 ((rd_T23 l1 x5_1).f1)).f0), .int .i64 ((rd_T39 l0 ((rd_T23 l1 x5_1).f1)).f1), .int .i64 0]) ?_ 2 _ rfl; (with_reducible repeat (first | refine blk_drewN ?_ _ | refine blk_drew ?_ | refine blk_alloc ?_ _)); refine blk_put (cs := #[.int .i64 ((rd_T39 l0 ((rd_T23 l1 x5_1).f1)).f0), .int .i64 0, .int .i64 0]) ?_ 1 _ rfl; (with_reducible repeat (first | refine blk_drewN ?_ _ | refine blk_drew ?_ | refine blk_alloc ?_ _)); refine blk_put (cs := #[.int .i64 0, .int .i64 0, .int .i64 0]) ?_ 0 _ rfl; (with_reducible repeat (first | refine blk_drewN ?_ _ | refine blk_drew ?_ | refine blk_alloc ?_ _)); refine blk_far ?_ NB459_458.out _; (with_reducible repeat (first | refine blk_drewN ?_ _ | refine blk_drew ?_ | refine blk_alloc ?_ _)); refine blk_far ?_ NB459_458.out _; (with_reducible repeat (first | refine blk_drewN ?_ _ | refine blk_drew ?_ | refine blk_alloc ?_ _)); refine blk_far ?_ NB459_458.out _; (with_reducible repeat (first | refine blk_drewN ?_ _ | refine blk_drew ?_ | refine blk_alloc ?_ _)); exact BK459.out⟩, ⟨by repeat (first | (with_reducible first | exact HB.out | apply below_alloc | apply pw_below_drewN | apply below_drew1 | refine below_set ?_ GE458.out | refine below_set ?_ GE459.out) | exact HB.out)⟩⟩
    case rest =>
     clear HC15
     try clear c1
     try clear c2
     try clear p2
     try clear c3
     try clear c3b0
     try clear c4
     try clear c4b0
     try clear p4
     try clear q4
     try clear hx4
     try clear c5
     try clear c7
     try clear c7b0
     try clear c8
     try clear c8b0
     try clear c9
     try clear c9b0
     try clear c10
     try clear c11
     try clear c11b0
     try clear c12
     try clear c12b0
     try clear c13
     try clear c13b0
     try clear c14
     try clear c14b0
     try clear c26
     try clear c26b0
     try clear c26b1
     try clear c27
     try clear c29
     try clear c29b0
     try clear c29b1
     try clear c30
     try clear c33
     try clear c33b0
     try clear c33b1
     try clear c34
     try clear c37
     try clear hcz28_0
     try clear hcz28_1
     try clear hcz28_2
     try clear hcz31_0
     try clear hcz31_1
     try clear hcz31_2
     try clear hcz32_0
     try clear hcz32_1
     try clear hcz32_2
     try clear hcz35_0
     try clear hcz35_1
     try clear hcz35_2
     try clear hcz36_0
     try clear hcz36_1
     try clear hcz36_2
     try clear hcz38_0
     try clear hcz38_1
     try clear hcz38_2
     try clear hcz39_0
     try clear hcz39_1
     try clear hcz39_2
     try clear hfz28_0
     try clear hfz28_1
     try clear hfz28_2
     try clear hfz31_0
     try clear hfz31_1
     try clear hfz31_2
     try clear hfz32_0
     try clear hfz32_1
     try clear hfz32_2
     try clear hfz35_0
     try clear hfz35_1
     try clear hfz35_2
     try clear hfz36_0
     try clear hfz36_1
     try clear hfz36_2
     try clear hfz38_0
     try clear hfz38_1
     try clear hfz38_2
     try clear hfz39_0
     try clear hfz39_1
     try clear hfz39_2
     try clear hx454_0
     try clear hx454_1
     try clear hx455_0
     try clear hx455_1
     try clear hx456_0
     try clear hx456_1
     try clear hx456_2
     try clear hx457_0
     try clear hx457_1
     try clear hx457_2
     try clear p2
     try clear p4
     try clear p454
     try clear p455
     try clear p456
     try clear p457
     try clear q4
     try clear q454
     try clear q455
     try clear q456
     try clear q457
     obtain ⟨kq, x71_14, rfl, HA, HJ14, BK458, BK459, HB⟩ := hcut
     cases kq with
     | zero => exact absurd HA.out (by simp [tickingref06_Closed.j2])
     | succ kj14 =>
      have H := HA.out
      clear HA
      simp only [tickingref06_Closed.j2] at H
      by_cases c40 : x71_14 = true
      ·subst c40
       have H1 : (tickingref06_Closed.l0 kj14 l0 l1 (wrap64 (x5_1 + 1))) = some r := by rw [if_pos rfl] at H; exact H
       clear H
       have H := H1
       clear H1
       have H' := Aside0.mk H
       clear H
       go_wp2
       go_roundg kj14
       case measure => have := HK1.out; have := HJ4.out; have := HJ14.out; omega
       exact ⟨(wrap64 (x5_1 + 1)), (by first | rfl | (simp; done) | (simp [*]; done)), H', ⟨by have := HK1.out; have := HJ4.out; have := HJ14.out; omega⟩, ⟨by repeat (first | (with_reducible first | exact HB.out | apply below_alloc | apply pw_below_drewN | apply below_drew1 | refine below_set ?_ GE458.out | refine below_set ?_ GE459.out) | exact HB.out)⟩⟩
      replace c40 := Bool.eq_false_iff.mpr c40
      subst c40
      have H1 : (if ((rd_T39 l0 ((rd_T23 l1 x5_1).f0)).f0) = ((rd_T39 l0 ((rd_T23 l1 x5_1).f1)).f0) then ((tickingref06_has.f kj14 l1 ((rd_T39 l0 ((rd_T23 l1 x5_1).f0)).f2) ((rd_T39 l0 ((rd_T23 l1 x5_1).f1)).f2)).bind fun t460 => (tickingref06_Closed.j3 kj14 l0 l1 x5_1 (!t460) ((rd_T39 l0 ((rd_T23 l1 x5_1).f0)).f0) ((rd_T39 l0 ((rd_T23 l1 x5_1).f0)).f1) ((rd_T39 l0 ((rd_T23 l1 x5_1).f0)).f2) ((rd_T39 l0 ((rd_T23 l1 x5_1).f1)).f0) ((rd_T39 l0 ((rd_T23 l1 x5_1).f1)).f1) ((rd_T39 l0 ((rd_T23 l1 x5_1).f1)).f2))) else (tickingref06_Closed.j3 kj14 l0 l1 x5_1 true ((rd_T39 l0 ((rd_T23 l1 x5_1).f0)).f0) ((rd_T39 l0 ((rd_T23 l1 x5_1).f0)).f1) ((rd_T39 l0 ((rd_T23 l1 x5_1).f0)).f2) ((rd_T39 l0 ((rd_T23 l1 x5_1).f1)).f0) ((rd_T39 l0 ((rd_T23 l1 x5_1).f1)).f1) ((rd_T39 l0 ((rd_T23 l1 x5_1).f1)).f2))) = some r := by rw [if_neg (show ¬ (false = true) by decide)] at H; exact H
      clear H
      have H := H1
      clear H1
      have HC41 := Aside0.mk H
      clear H
      go_upto_region 9 with (fail)
      go_cut [85] (fun v85 wc => ∃ (kq : Nat) (x85_40 : Bool), v85 = .bool x85_40 ∧ Aside0 (tickingref06_Closed.j3 kq l0 l1 x5_1 x85_40 ((rd_T39 l0 ((rd_T23 l1 x5_1).f0)).f0) ((rd_T39 l0 ((rd_T23 l1 x5_1).f0)).f1) ((rd_T39 l0 ((rd_T23 l1 x5_1).f0)).f2) ((rd_T39 l0 ((rd_T23 l1 x5_1).f1)).f0) ((rd_T39 l0 ((rd_T23 l1 x5_1).f1)).f1) ((rd_T39 l0 ((rd_T23 l1 x5_1).f1)).f2) = some r) ∧ Aside0 (kq ≤ kj14) ∧ Aside0 (wc.heap[gb458]? = some (.cells #[.int .i64 ((rd_T39 l0 ((rd_T23 l1 x5_1).f0)).f0), .int .i64 ((rd_T39 l0 ((rd_T23 l1 x5_1).f0)).f1), .int .i64 ((rd_T39 l0 ((rd_T23 l1 x5_1).f0)).f2)] 39 (0, 0))) ∧ Aside0 (wc.heap[gb459]? = some (.cells #[.int .i64 ((rd_T39 l0 ((rd_T23 l1 x5_1).f1)).f0), .int .i64 ((rd_T39 l0 ((rd_T23 l1 x5_1).f1)).f1), .int .i64 ((rd_T39 l0 ((rd_T23 l1 x5_1).f1)).f2)] 39 (0, 0))) ∧ Aside0 (Below w.heap.size w wc))
      case first =>
       have H := HC41.out
       clear HC41
       by_cases c42 : ((rd_T39 l0 ((rd_T23 l1 x5_1).f0)).f0) = ((rd_T39 l0 ((rd_T23 l1 x5_1).f1)).f0)
       rotate_left
       ·rw [if_neg c42] at H
        have c42b0 : (((rd_T39 l0 ((rd_T23 l1 x5_1).f0)).f0) == ((rd_T39 l0 ((rd_T23 l1 x5_1).f1)).f0)) = false := beq_eq_false_iff_ne.mpr c42
        have c42b1 : (((rd_T39 l0 ((rd_T23 l1 x5_1).f0)).f0) != ((rd_T39 l0 ((rd_T23 l1 x5_1).f1)).f0)) = true := bne_iff_ne.mpr c42
        (first | rw [c42b0] | (simp only [i64_w, i32_w]; rw [c42b0]) | skip)
        have H' := Aside0.mk H
        clear H
        have hnb47 := NB458_459.out
        have hnc47 := NB459_458.out
        have hcz48_0 : wc.cell? ⟨gb458, 0, none⟩ = some (.int .i64 ((rd_T39 l0 ((rd_T23 l1 x5_1).f0)).f0)) := (blk_cell BK458.out 0).trans rfl
        have hcz48_1 : wc.cell? ⟨gb458, 1, none⟩ = some (.int .i64 ((rd_T39 l0 ((rd_T23 l1 x5_1).f0)).f1)) := (blk_cell BK458.out 1).trans rfl
        have hcz48_2 : wc.cell? ⟨gb458, 2, none⟩ = some (.int .i64 ((rd_T39 l0 ((rd_T23 l1 x5_1).f0)).f2)) := (blk_cell BK458.out 2).trans rfl
        have hfz48_0 := blk_frozen BK458.out 0
        have hfz48_1 := blk_frozen BK458.out 1
        have hfz48_2 := blk_frozen BK458.out 2
        have hcz49_0 : wc.cell? ⟨gb459, 0, none⟩ = some (.int .i64 ((rd_T39 l0 ((rd_T23 l1 x5_1).f1)).f0)) := (blk_cell BK459.out 0).trans rfl
        have hcz49_1 : wc.cell? ⟨gb459, 1, none⟩ = some (.int .i64 ((rd_T39 l0 ((rd_T23 l1 x5_1).f1)).f1)) := (blk_cell BK459.out 1).trans rfl
        have hcz49_2 : wc.cell? ⟨gb459, 2, none⟩ = some (.int .i64 ((rd_T39 l0 ((rd_T23 l1 x5_1).f1)).f2)) := (blk_cell BK459.out 2).trans rfl
        have hfz49_0 := blk_frozen BK459.out 0
        have hfz49_1 := blk_frozen BK459.out 1
        have hfz49_2 := blk_frozen BK459.out 2
        go_wp2
        go_meet
        exact ⟨_, (true), (by first | rfl | (simp; done) | (simp [*]; done)), H', ⟨by have := HK1.out; have := HJ4.out; have := HJ14.out; first | omega | exact Nat.le_refl _⟩, ⟨by (with_reducible repeat (first | refine blk_drewN ?_ _ | refine blk_drew ?_ | refine blk_alloc ?_ _)); exact BK458.out⟩, ⟨by (with_reducible repeat (first | refine blk_drewN ?_ _ | refine blk_drew ?_ | refine blk_alloc ?_ _)); exact BK459.out⟩, ⟨by repeat (first | (with_reducible first | exact HB.out | apply below_alloc | apply pw_below_drewN | apply below_drew1 | refine below_set ?_ GE458.out | refine below_set ?_ GE459.out) | exact HB.out)⟩⟩
       rw [if_pos c42] at H
       have c42b0 : (((rd_T39 l0 ((rd_T23 l1 x5_1).f0)).f0) == ((rd_T39 l0 ((rd_T23 l1 x5_1).f1)).f0)) = true := beq_iff_eq.mpr c42
       have c42b1 : (((rd_T39 l0 ((rd_T23 l1 x5_1).f0)).f0) != ((rd_T39 l0 ((rd_T23 l1 x5_1).f1)).f0)) = false := bne_eq_false_iff_eq.mpr c42
       clear c42
       (first | rw [c42b0] | (simp only [i64_w, i32_w]; rw [c42b0]) | skip)
       replace H := Option.bind_eq_some_iff.mp H
       obtain ⟨t460, A430, H⟩ := H
       replace H : (tickingref06_Closed.j3 kj14 l0 l1 x5_1 (!t460) ((rd_T39 l0 ((rd_T23 l1 x5_1).f0)).f0) ((rd_T39 l0 ((rd_T23 l1 x5_1).f0)).f1) ((rd_T39 l0 ((rd_T23 l1 x5_1).f0)).f2) ((rd_T39 l0 ((rd_T23 l1 x5_1).f1)).f0) ((rd_T39 l0 ((rd_T23 l1 x5_1).f1)).f1) ((rd_T39 l0 ((rd_T23 l1 x5_1).f1)).f2)) = some r := H
       have A43 := Aside0.mk A430
       clear A430
       have H' := Aside0.mk H
       clear H
       have hnb44 := NB458_459.out
       have hnc44 := NB459_458.out
       have hcz45_0 : wc.cell? ⟨gb458, 0, none⟩ = some (.int .i64 ((rd_T39 l0 ((rd_T23 l1 x5_1).f0)).f0)) := (blk_cell BK458.out 0).trans rfl
       have hcz45_1 : wc.cell? ⟨gb458, 1, none⟩ = some (.int .i64 ((rd_T39 l0 ((rd_T23 l1 x5_1).f0)).f1)) := (blk_cell BK458.out 1).trans rfl
       have hcz45_2 : wc.cell? ⟨gb458, 2, none⟩ = some (.int .i64 ((rd_T39 l0 ((rd_T23 l1 x5_1).f0)).f2)) := (blk_cell BK458.out 2).trans rfl
       have hfz45_0 := blk_frozen BK458.out 0
       have hfz45_1 := blk_frozen BK458.out 1
       have hfz45_2 := blk_frozen BK458.out 2
       have hcz46_0 : wc.cell? ⟨gb459, 0, none⟩ = some (.int .i64 ((rd_T39 l0 ((rd_T23 l1 x5_1).f1)).f0)) := (blk_cell BK459.out 0).trans rfl
       have hcz46_1 : wc.cell? ⟨gb459, 1, none⟩ = some (.int .i64 ((rd_T39 l0 ((rd_T23 l1 x5_1).f1)).f1)) := (blk_cell BK459.out 1).trans rfl
       have hcz46_2 : wc.cell? ⟨gb459, 2, none⟩ = some (.int .i64 ((rd_T39 l0 ((rd_T23 l1 x5_1).f1)).f2)) := (blk_cell BK459.out 2).trans rfl
       have hfz46_0 := blk_frozen BK459.out 0
       have hfz46_1 := blk_frozen BK459.out 1
       have hfz46_2 := blk_frozen BK459.out 2
       go_wp2_with (first | (go_at_call 53; (with_reducible refine (tickingref06_has.calls kj14 _ _ l1 ((rd_T39 l0 ((rd_T23 l1 x5_1).f0)).f2) ((rd_T39 l0 ((rd_T23 l1 x5_1).f1)).f2) t460 _ ?side1 ?side2 A43.out).mono ?_); (case side1 => repeat (first | exact (Kd.C_below HR1.out HB.out) | (with_reducible refine Kd.C_alloc ?_ _) | (with_reducible refine Kd.C_drewN ?_ _) | (with_reducible refine Kd.C_drew ?_))); (case side2 => exact HC1.out); rintro e w' ⟨rfl, ⟨nd, rfl⟩⟩))
       go_meet
       exact ⟨_, (!t460), (by first | rfl | (simp; done) | (simp [*]; done)), H', ⟨by have := HK1.out; have := HJ4.out; have := HJ14.out; first | omega | exact Nat.le_refl _⟩, ⟨by (with_reducible repeat (first | refine blk_drewN ?_ _ | refine blk_drew ?_ | refine blk_alloc ?_ _)); exact BK458.out⟩, ⟨by (with_reducible repeat (first | refine blk_drewN ?_ _ | refine blk_drew ?_ | refine blk_alloc ?_ _)); exact BK459.out⟩, ⟨by repeat (first | (with_reducible first | exact HB.out | apply below_alloc | apply pw_below_drewN | apply below_drew1 | refine below_set ?_ GE458.out | refine below_set ?_ GE459.out) | exact HB.out)⟩⟩
      case rest =>
       clear HC41
       try clear c1
       try clear c2
       try clear p2
       try clear c3
       try clear c3b0
       try clear c4
       try clear c4b0
       try clear p4
       try clear q4
       try clear hx4
       try clear c5
       try clear p6
       try clear c7
       try clear c7b0
       try clear c8
       try clear c8b0
       try clear c9
       try clear c9b0
       try clear c10
       try clear c11
       try clear c11b0
       try clear c12
       try clear c12b0
       try clear c13
       try clear c13b0
       try clear c14
       try clear c14b0
       try clear c26
       try clear c26b0
       try clear c26b1
       try clear c27
       try clear c29
       try clear c29b0
       try clear c29b1
       try clear c30
       try clear c33
       try clear c33b0
       try clear c33b1
       try clear c34
       try clear c37
       try clear c40
       try clear c42
       try clear c42b0
       try clear c42b1
       try clear c44
       try clear p45
       try clear q45
       try clear hx45
       try clear c47
       try clear hcz28_0
       try clear hcz28_1
       try clear hcz28_2
       try clear hcz31_0
       try clear hcz31_1
       try clear hcz31_2
       try clear hcz32_0
       try clear hcz32_1
       try clear hcz32_2
       try clear hcz35_0
       try clear hcz35_1
       try clear hcz35_2
       try clear hcz36_0
       try clear hcz36_1
       try clear hcz36_2
       try clear hcz38_0
       try clear hcz38_1
       try clear hcz38_2
       try clear hcz39_0
       try clear hcz39_1
       try clear hcz39_2
       try clear hcz45_0
       try clear hcz45_1
       try clear hcz45_2
       try clear hcz46_0
       try clear hcz46_1
       try clear hcz46_2
       try clear hcz48_0
       try clear hcz48_1
       try clear hcz48_2
       try clear hcz49_0
       try clear hcz49_1
       try clear hcz49_2
       try clear hfz28_0
       try clear hfz28_1
       try clear hfz28_2
       try clear hfz31_0
       try clear hfz31_1
       try clear hfz31_2
       try clear hfz32_0
       try clear hfz32_1
       try clear hfz32_2
       try clear hfz35_0
       try clear hfz35_1
       try clear hfz35_2
       try clear hfz36_0
       try clear hfz36_1
       try clear hfz36_2
       try clear hfz38_0
       try clear hfz38_1
       try clear hfz38_2
       try clear hfz39_0
       try clear hfz39_1
       try clear hfz39_2
       try clear hfz45_0
       try clear hfz45_1
       try clear hfz45_2
       try clear hfz46_0
       try clear hfz46_1
       try clear hfz46_2
       try clear hfz48_0
       try clear hfz48_1
       try clear hfz48_2
       try clear hfz49_0
       try clear hfz49_1
       try clear hfz49_2
       try clear hx454_0
       try clear hx454_1
       try clear hx455_0
       try clear hx455_1
       try clear hx456_0
       try clear hx456_1
       try clear hx456_2
       try clear hx457_0
       try clear hx457_1
       try clear hx457_2
       try clear p2
       try clear p4
       try clear p454
       try clear p455
       try clear p456
       try clear p457
       try clear q4
       try clear q454
       try clear q455
       try clear q456
       try clear q457
       obtain ⟨kq, x85_40, rfl, HA, HJ40, BK458, BK459, HB⟩ := hcut
       cases kq with
       | zero => exact absurd HA.out (by simp [tickingref06_Closed.j3])
       | succ kj40 =>
        have H := HA.out
        clear HA
        simp only [tickingref06_Closed.j3] at H
        by_cases c50 : x85_40 = true
        ·subst c50
         have H1 : (some false) = some r := by rw [if_pos rfl] at H; exact H
         clear H
         have H := H1
         clear H1
         obtain rfl := Option.some.inj H
         go_wp2
         go_ret
         exact ⟨by first | rfl | (simp [errW_none, errW_some] <;> rfl) | (simp [*, errW_none, errW_some] <;> rfl), by repeat (first | (with_reducible first | exact HB.out | apply below_alloc | apply pw_below_drewN | apply below_drew1 | refine below_set ?_ GE458.out | refine below_set ?_ GE459.out) | exact HB.out)⟩
        replace c50 := Bool.eq_false_iff.mpr c50
        subst c50
        have H1 : (if ((rd_T39 l0 ((rd_T23 l1 x5_1).f0)).f0) = 4 then ((tickingref06_has.f kj40 l1 ((rd_T39 l0 ((rd_T23 l1 x5_1).f0)).f1) ((rd_T39 l0 ((rd_T23 l1 x5_1).f1)).f1)).bind fun t461 => (if t461 = true then (if ((rd_T39 l0 ((rd_T23 l1 x5_1).f0)).f0) = 5 then ((tickingref06_has.f kj40 l1 ((rd_T39 l0 ((rd_T23 l1 x5_1).f1)).f1) ((rd_T39 l0 ((rd_T23 l1 x5_1).f0)).f1)).bind fun t462 => (if t462 = true then (tickingref06_Closed.l0 kj40 l0 l1 (wrap64 (x5_1 + 1))) else (some false))) else (tickingref06_Closed.l0 kj40 l0 l1 (wrap64 (x5_1 + 1)))) else (some false))) else (if ((rd_T39 l0 ((rd_T23 l1 x5_1).f0)).f0) = 5 then ((tickingref06_has.f kj40 l1 ((rd_T39 l0 ((rd_T23 l1 x5_1).f1)).f1) ((rd_T39 l0 ((rd_T23 l1 x5_1).f0)).f1)).bind fun t463 => (if t463 = true then (tickingref06_Closed.l0 kj40 l0 l1 (wrap64 (x5_1 + 1))) else (some false))) else (tickingref06_Closed.l0 kj40 l0 l1 (wrap64 (x5_1 + 1))))) = some r := by rw [if_neg (show ¬ (false = true) by decide)] at H; exact H
        clear H
        have H := H1
        clear H1
        by_cases c51 : ((rd_T39 l0 ((rd_T23 l1 x5_1).f0)).f0) = 4
        rotate_left
        ·rw [if_neg c51] at H
         have c51b0 : (((rd_T39 l0 ((rd_T23 l1 x5_1).f0)).f0) == 4) = false := beq_eq_false_iff_ne.mpr c51
         have c51b1 : (((rd_T39 l0 ((rd_T23 l1 x5_1).f0)).f0) != 4) = true := bne_iff_ne.mpr c51
         by_cases c69 : ((rd_T39 l0 ((rd_T23 l1 x5_1).f0)).f0) = 5
         rotate_left
         ·rw [if_neg c69] at H
          have c69b0 : (((rd_T39 l0 ((rd_T23 l1 x5_1).f0)).f0) == 5) = false := beq_eq_false_iff_ne.mpr c69
          have c69b1 : (((rd_T39 l0 ((rd_T23 l1 x5_1).f0)).f0) != 5) = true := bne_iff_ne.mpr c69
          have H' := Aside0.mk H
          clear H
          have hnb78 := NB458_459.out
          have hnc78 := NB459_458.out
          have hcz79_0 : wc.cell? ⟨gb458, 0, none⟩ = some (.int .i64 ((rd_T39 l0 ((rd_T23 l1 x5_1).f0)).f0)) := (blk_cell BK458.out 0).trans rfl
          have hcz79_1 : wc.cell? ⟨gb458, 1, none⟩ = some (.int .i64 ((rd_T39 l0 ((rd_T23 l1 x5_1).f0)).f1)) := (blk_cell BK458.out 1).trans rfl
          have hcz79_2 : wc.cell? ⟨gb458, 2, none⟩ = some (.int .i64 ((rd_T39 l0 ((rd_T23 l1 x5_1).f0)).f2)) := (blk_cell BK458.out 2).trans rfl
          have hfz79_0 := blk_frozen BK458.out 0
          have hfz79_1 := blk_frozen BK458.out 1
          have hfz79_2 := blk_frozen BK458.out 2
          go_wp2
          go_roundg kj40
          case measure => have := HK1.out; have := HJ4.out; have := HJ14.out; have := HJ40.out; omega
          exact ⟨(wrap64 (x5_1 + 1)), (by first | rfl | (simp; done) | (simp [*]; done)), H', ⟨by have := HK1.out; have := HJ4.out; have := HJ14.out; have := HJ40.out; omega⟩, ⟨by repeat (first | (with_reducible first | exact HB.out | apply below_alloc | apply pw_below_drewN | apply below_drew1 | refine below_set ?_ GE458.out | refine below_set ?_ GE459.out) | exact HB.out)⟩⟩
         rw [if_pos c69] at H
         have c69b0 : (((rd_T39 l0 ((rd_T23 l1 x5_1).f0)).f0) == 5) = true := beq_iff_eq.mpr c69
         have c69b1 : (((rd_T39 l0 ((rd_T23 l1 x5_1).f0)).f0) != 5) = false := bne_eq_false_iff_eq.mpr c69
         clear c69
         replace H := Option.bind_eq_some_iff.mp H
         obtain ⟨t463, A700, H⟩ := H
         replace H : (if t463 = true then (tickingref06_Closed.l0 kj40 l0 l1 (wrap64 (x5_1 + 1))) else (some false)) = some r := H
         have A70 := Aside0.mk A700
         clear A700
         by_cases c71 : t463 = true
         rotate_left
         ·replace c71 := Bool.eq_false_iff.mpr c71
          subst c71
          have H1 : (some false) = some r := by rw [if_neg (show ¬ (false = true) by decide)] at H; exact H
          clear H
          have H := H1
          clear H1
          obtain rfl := Option.some.inj H
          have hnb75 := NB458_459.out
          have hnc75 := NB459_458.out
          have hcz76_0 : wc.cell? ⟨gb458, 0, none⟩ = some (.int .i64 ((rd_T39 l0 ((rd_T23 l1 x5_1).f0)).f0)) := (blk_cell BK458.out 0).trans rfl
          have hcz76_1 : wc.cell? ⟨gb458, 1, none⟩ = some (.int .i64 ((rd_T39 l0 ((rd_T23 l1 x5_1).f0)).f1)) := (blk_cell BK458.out 1).trans rfl
          have hcz76_2 : wc.cell? ⟨gb458, 2, none⟩ = some (.int .i64 ((rd_T39 l0 ((rd_T23 l1 x5_1).f0)).f2)) := (blk_cell BK458.out 2).trans rfl
          have hfz76_0 := blk_frozen BK458.out 0
          have hfz76_1 := blk_frozen BK458.out 1
          have hfz76_2 := blk_frozen BK458.out 2
          have hcz77_0 : wc.cell? ⟨gb459, 0, none⟩ = some (.int .i64 ((rd_T39 l0 ((rd_T23 l1 x5_1).f1)).f0)) := (blk_cell BK459.out 0).trans rfl
          have hcz77_1 : wc.cell? ⟨gb459, 1, none⟩ = some (.int .i64 ((rd_T39 l0 ((rd_T23 l1 x5_1).f1)).f1)) := (blk_cell BK459.out 1).trans rfl
          have hcz77_2 : wc.cell? ⟨gb459, 2, none⟩ = some (.int .i64 ((rd_T39 l0 ((rd_T23 l1 x5_1).f1)).f2)) := (blk_cell BK459.out 2).trans rfl
          have hfz77_0 := blk_frozen BK459.out 0
          have hfz77_1 := blk_frozen BK459.out 1
          have hfz77_2 := blk_frozen BK459.out 2
          go_wp2_with (first | (go_at_call 53; (with_reducible refine (tickingref06_has.calls kj40 _ _ l1 ((rd_T39 l0 ((rd_T23 l1 x5_1).f1)).f1) ((rd_T39 l0 ((rd_T23 l1 x5_1).f0)).f1) false _ ?side1 ?side2 A70.out).mono ?_); (case side1 => repeat (first | exact (Kd.C_below HR1.out HB.out) | (with_reducible refine Kd.C_alloc ?_ _) | (with_reducible refine Kd.C_drewN ?_ _) | (with_reducible refine Kd.C_drew ?_))); (case side2 => exact HC1.out); rintro e w' ⟨rfl, ⟨nd, rfl⟩⟩))
          go_ret
          exact ⟨by first | rfl | (simp [errW_none, errW_some] <;> rfl) | (simp [*, errW_none, errW_some] <;> rfl), by repeat (first | (with_reducible first | exact HB.out | apply below_alloc | apply pw_below_drewN | apply below_drew1 | refine below_set ?_ GE458.out | refine below_set ?_ GE459.out) | exact HB.out)⟩
         subst c71
         have H1 : (tickingref06_Closed.l0 kj40 l0 l1 (wrap64 (x5_1 + 1))) = some r := by rw [if_pos rfl] at H; exact H
         clear H
         have H := H1
         clear H1
         have H' := Aside0.mk H
         clear H
         have hnb72 := NB458_459.out
         have hnc72 := NB459_458.out
         have hcz73_0 : wc.cell? ⟨gb458, 0, none⟩ = some (.int .i64 ((rd_T39 l0 ((rd_T23 l1 x5_1).f0)).f0)) := (blk_cell BK458.out 0).trans rfl
         have hcz73_1 : wc.cell? ⟨gb458, 1, none⟩ = some (.int .i64 ((rd_T39 l0 ((rd_T23 l1 x5_1).f0)).f1)) := (blk_cell BK458.out 1).trans rfl
         have hcz73_2 : wc.cell? ⟨gb458, 2, none⟩ = some (.int .i64 ((rd_T39 l0 ((rd_T23 l1 x5_1).f0)).f2)) := (blk_cell BK458.out 2).trans rfl
         have hfz73_0 := blk_frozen BK458.out 0
         have hfz73_1 := blk_frozen BK458.out 1
         have hfz73_2 := blk_frozen BK458.out 2
         have hcz74_0 : wc.cell? ⟨gb459, 0, none⟩ = some (.int .i64 ((rd_T39 l0 ((rd_T23 l1 x5_1).f1)).f0)) := (blk_cell BK459.out 0).trans rfl
         have hcz74_1 : wc.cell? ⟨gb459, 1, none⟩ = some (.int .i64 ((rd_T39 l0 ((rd_T23 l1 x5_1).f1)).f1)) := (blk_cell BK459.out 1).trans rfl
         have hcz74_2 : wc.cell? ⟨gb459, 2, none⟩ = some (.int .i64 ((rd_T39 l0 ((rd_T23 l1 x5_1).f1)).f2)) := (blk_cell BK459.out 2).trans rfl
         have hfz74_0 := blk_frozen BK459.out 0
         have hfz74_1 := blk_frozen BK459.out 1
         have hfz74_2 := blk_frozen BK459.out 2
         go_wp2_with (first | (go_at_call 53; (with_reducible refine (tickingref06_has.calls kj40 _ _ l1 ((rd_T39 l0 ((rd_T23 l1 x5_1).f1)).f1) ((rd_T39 l0 ((rd_T23 l1 x5_1).f0)).f1) true _ ?side1 ?side2 A70.out).mono ?_); (case side1 => repeat (first | exact (Kd.C_below HR1.out HB.out) | (with_reducible refine Kd.C_alloc ?_ _) | (with_reducible refine Kd.C_drewN ?_ _) | (with_reducible refine Kd.C_drew ?_))); (case side2 => exact HC1.out); rintro e w' ⟨rfl, ⟨nd, rfl⟩⟩))
         go_roundg kj40
         case measure => have := HK1.out; have := HJ4.out; have := HJ14.out; have := HJ40.out; omega
         exact ⟨(wrap64 (x5_1 + 1)), (by first | rfl | (simp; done) | (simp [*]; done)), H', ⟨by have := HK1.out; have := HJ4.out; have := HJ14.out; have := HJ40.out; omega⟩, ⟨by repeat (first | (with_reducible first | exact HB.out | apply below_alloc | apply pw_below_drewN | apply below_drew1 | refine below_set ?_ GE458.out | refine below_set ?_ GE459.out) | exact HB.out)⟩⟩
        rw [if_pos c51] at H
        have c51b0 : (((rd_T39 l0 ((rd_T23 l1 x5_1).f0)).f0) == 4) = true := beq_iff_eq.mpr c51
        have c51b1 : (((rd_T39 l0 ((rd_T23 l1 x5_1).f0)).f0) != 4) = false := bne_eq_false_iff_eq.mpr c51
        clear c51
        replace H := Option.bind_eq_some_iff.mp H
        obtain ⟨t461, A520, H⟩ := H
        replace H : (if t461 = true then (if ((rd_T39 l0 ((rd_T23 l1 x5_1).f0)).f0) = 5 then ((tickingref06_has.f kj40 l1 ((rd_T39 l0 ((rd_T23 l1 x5_1).f1)).f1) ((rd_T39 l0 ((rd_T23 l1 x5_1).f0)).f1)).bind fun t462 => (if t462 = true then (tickingref06_Closed.l0 kj40 l0 l1 (wrap64 (x5_1 + 1))) else (some false))) else (tickingref06_Closed.l0 kj40 l0 l1 (wrap64 (x5_1 + 1)))) else (some false)) = some r := H
        have A52 := Aside0.mk A520
        clear A520
        by_cases c53 : t461 = true
        rotate_left
        ·replace c53 := Bool.eq_false_iff.mpr c53
         subst c53
         have H1 : (some false) = some r := by rw [if_neg (show ¬ (false = true) by decide)] at H; exact H
         clear H
         have H := H1
         clear H1
         obtain rfl := Option.some.inj H
         have hnb66 := NB458_459.out
         have hnc66 := NB459_458.out
         have hcz67_0 : wc.cell? ⟨gb458, 0, none⟩ = some (.int .i64 ((rd_T39 l0 ((rd_T23 l1 x5_1).f0)).f0)) := (blk_cell BK458.out 0).trans rfl
         have hcz67_1 : wc.cell? ⟨gb458, 1, none⟩ = some (.int .i64 ((rd_T39 l0 ((rd_T23 l1 x5_1).f0)).f1)) := (blk_cell BK458.out 1).trans rfl
         have hcz67_2 : wc.cell? ⟨gb458, 2, none⟩ = some (.int .i64 ((rd_T39 l0 ((rd_T23 l1 x5_1).f0)).f2)) := (blk_cell BK458.out 2).trans rfl
         have hfz67_0 := blk_frozen BK458.out 0
         have hfz67_1 := blk_frozen BK458.out 1
         have hfz67_2 := blk_frozen BK458.out 2
         have hcz68_0 : wc.cell? ⟨gb459, 0, none⟩ = some (.int .i64 ((rd_T39 l0 ((rd_T23 l1 x5_1).f1)).f0)) := (blk_cell BK459.out 0).trans rfl
         have hcz68_1 : wc.cell? ⟨gb459, 1, none⟩ = some (.int .i64 ((rd_T39 l0 ((rd_T23 l1 x5_1).f1)).f1)) := (blk_cell BK459.out 1).trans rfl
         have hcz68_2 : wc.cell? ⟨gb459, 2, none⟩ = some (.int .i64 ((rd_T39 l0 ((rd_T23 l1 x5_1).f1)).f2)) := (blk_cell BK459.out 2).trans rfl
         have hfz68_0 := blk_frozen BK459.out 0
         have hfz68_1 := blk_frozen BK459.out 1
         have hfz68_2 := blk_frozen BK459.out 2
         go_wp2_with (first | (go_at_call 53; (with_reducible refine (tickingref06_has.calls kj40 _ _ l1 ((rd_T39 l0 ((rd_T23 l1 x5_1).f0)).f1) ((rd_T39 l0 ((rd_T23 l1 x5_1).f1)).f1) false _ ?side1 ?side2 A52.out).mono ?_); (case side1 => repeat (first | exact (Kd.C_below HR1.out HB.out) | (with_reducible refine Kd.C_alloc ?_ _) | (with_reducible refine Kd.C_drewN ?_ _) | (with_reducible refine Kd.C_drew ?_))); (case side2 => exact HC1.out); rintro e w' ⟨rfl, ⟨nd, rfl⟩⟩))
         go_ret
         exact ⟨by first | rfl | (simp [errW_none, errW_some] <;> rfl) | (simp [*, errW_none, errW_some] <;> rfl), by repeat (first | (with_reducible first | exact HB.out | apply below_alloc | apply pw_below_drewN | apply below_drew1 | refine below_set ?_ GE458.out | refine below_set ?_ GE459.out) | exact HB.out)⟩
        subst c53
        have H1 : (if ((rd_T39 l0 ((rd_T23 l1 x5_1).f0)).f0) = 5 then ((tickingref06_has.f kj40 l1 ((rd_T39 l0 ((rd_T23 l1 x5_1).f1)).f1) ((rd_T39 l0 ((rd_T23 l1 x5_1).f0)).f1)).bind fun t462 => (if t462 = true then (tickingref06_Closed.l0 kj40 l0 l1 (wrap64 (x5_1 + 1))) else (some false))) else (tickingref06_Closed.l0 kj40 l0 l1 (wrap64 (x5_1 + 1)))) = some r := by rw [if_pos rfl] at H; exact H
        clear H
        have H := H1
        clear H1
        by_cases c54 : ((rd_T39 l0 ((rd_T23 l1 x5_1).f0)).f0) = 5
        rotate_left
        ·rw [if_neg c54] at H
         have c54b0 : (((rd_T39 l0 ((rd_T23 l1 x5_1).f0)).f0) == 5) = false := beq_eq_false_iff_ne.mpr c54
         have c54b1 : (((rd_T39 l0 ((rd_T23 l1 x5_1).f0)).f0) != 5) = true := bne_iff_ne.mpr c54
         have H' := Aside0.mk H
         clear H
         have hnb63 := NB458_459.out
         have hnc63 := NB459_458.out
         have hcz64_0 : wc.cell? ⟨gb458, 0, none⟩ = some (.int .i64 ((rd_T39 l0 ((rd_T23 l1 x5_1).f0)).f0)) := (blk_cell BK458.out 0).trans rfl
         have hcz64_1 : wc.cell? ⟨gb458, 1, none⟩ = some (.int .i64 ((rd_T39 l0 ((rd_T23 l1 x5_1).f0)).f1)) := (blk_cell BK458.out 1).trans rfl
         have hcz64_2 : wc.cell? ⟨gb458, 2, none⟩ = some (.int .i64 ((rd_T39 l0 ((rd_T23 l1 x5_1).f0)).f2)) := (blk_cell BK458.out 2).trans rfl
         have hfz64_0 := blk_frozen BK458.out 0
         have hfz64_1 := blk_frozen BK458.out 1
         have hfz64_2 := blk_frozen BK458.out 2
         have hcz65_0 : wc.cell? ⟨gb459, 0, none⟩ = some (.int .i64 ((rd_T39 l0 ((rd_T23 l1 x5_1).f1)).f0)) := (blk_cell BK459.out 0).trans rfl
         have hcz65_1 : wc.cell? ⟨gb459, 1, none⟩ = some (.int .i64 ((rd_T39 l0 ((rd_T23 l1 x5_1).f1)).f1)) := (blk_cell BK459.out 1).trans rfl
         have hcz65_2 : wc.cell? ⟨gb459, 2, none⟩ = some (.int .i64 ((rd_T39 l0 ((rd_T23 l1 x5_1).f1)).f2)) := (blk_cell BK459.out 2).trans rfl
         have hfz65_0 := blk_frozen BK459.out 0
         have hfz65_1 := blk_frozen BK459.out 1
         have hfz65_2 := blk_frozen BK459.out 2
         go_wp2_with (first | (go_at_call 53; (with_reducible refine (tickingref06_has.calls kj40 _ _ l1 ((rd_T39 l0 ((rd_T23 l1 x5_1).f0)).f1) ((rd_T39 l0 ((rd_T23 l1 x5_1).f1)).f1) true _ ?side1 ?side2 A52.out).mono ?_); (case side1 => repeat (first | exact (Kd.C_below HR1.out HB.out) | (with_reducible refine Kd.C_alloc ?_ _) | (with_reducible refine Kd.C_drewN ?_ _) | (with_reducible refine Kd.C_drew ?_))); (case side2 => exact HC1.out); rintro e w' ⟨rfl, ⟨nd, rfl⟩⟩))
         go_roundg kj40
         case measure => have := HK1.out; have := HJ4.out; have := HJ14.out; have := HJ40.out; omega
         exact ⟨(wrap64 (x5_1 + 1)), (by first | rfl | (simp; done) | (simp [*]; done)), H', ⟨by have := HK1.out; have := HJ4.out; have := HJ14.out; have := HJ40.out; omega⟩, ⟨by repeat (first | (with_reducible first | exact HB.out | apply below_alloc | apply pw_below_drewN | apply below_drew1 | refine below_set ?_ GE458.out | refine below_set ?_ GE459.out) | exact HB.out)⟩⟩
        rw [if_pos c54] at H
        have c54b0 : (((rd_T39 l0 ((rd_T23 l1 x5_1).f0)).f0) == 5) = true := beq_iff_eq.mpr c54
        have c54b1 : (((rd_T39 l0 ((rd_T23 l1 x5_1).f0)).f0) != 5) = false := bne_eq_false_iff_eq.mpr c54
        clear c54
        replace H := Option.bind_eq_some_iff.mp H
        obtain ⟨t462, A550, H⟩ := H
        replace H : (if t462 = true then (tickingref06_Closed.l0 kj40 l0 l1 (wrap64 (x5_1 + 1))) else (some false)) = some r := H
        have A55 := Aside0.mk A550
        clear A550
        by_cases c56 : t462 = true
        rotate_left
        ·replace c56 := Bool.eq_false_iff.mpr c56
         subst c56
         have H1 : (some false) = some r := by rw [if_neg (show ¬ (false = true) by decide)] at H; exact H
         clear H
         have H := H1
         clear H1
         obtain rfl := Option.some.inj H
         have hnb60 := NB458_459.out
         have hnc60 := NB459_458.out
         have hcz61_0 : wc.cell? ⟨gb458, 0, none⟩ = some (.int .i64 ((rd_T39 l0 ((rd_T23 l1 x5_1).f0)).f0)) := (blk_cell BK458.out 0).trans rfl
         have hcz61_1 : wc.cell? ⟨gb458, 1, none⟩ = some (.int .i64 ((rd_T39 l0 ((rd_T23 l1 x5_1).f0)).f1)) := (blk_cell BK458.out 1).trans rfl
         have hcz61_2 : wc.cell? ⟨gb458, 2, none⟩ = some (.int .i64 ((rd_T39 l0 ((rd_T23 l1 x5_1).f0)).f2)) := (blk_cell BK458.out 2).trans rfl
         have hfz61_0 := blk_frozen BK458.out 0
         have hfz61_1 := blk_frozen BK458.out 1
         have hfz61_2 := blk_frozen BK458.out 2
         have hcz62_0 : wc.cell? ⟨gb459, 0, none⟩ = some (.int .i64 ((rd_T39 l0 ((rd_T23 l1 x5_1).f1)).f0)) := (blk_cell BK459.out 0).trans rfl
         have hcz62_1 : wc.cell? ⟨gb459, 1, none⟩ = some (.int .i64 ((rd_T39 l0 ((rd_T23 l1 x5_1).f1)).f1)) := (blk_cell BK459.out 1).trans rfl
         have hcz62_2 : wc.cell? ⟨gb459, 2, none⟩ = some (.int .i64 ((rd_T39 l0 ((rd_T23 l1 x5_1).f1)).f2)) := (blk_cell BK459.out 2).trans rfl
         have hfz62_0 := blk_frozen BK459.out 0
         have hfz62_1 := blk_frozen BK459.out 1
         have hfz62_2 := blk_frozen BK459.out 2
         go_wp2_with (first | (go_at_call 53; (with_reducible refine (tickingref06_has.calls kj40 _ _ l1 ((rd_T39 l0 ((rd_T23 l1 x5_1).f0)).f1) ((rd_T39 l0 ((rd_T23 l1 x5_1).f1)).f1) true _ ?side1 ?side2 A52.out).mono ?_); (case side1 => repeat (first | exact (Kd.C_below HR1.out HB.out) | (with_reducible refine Kd.C_alloc ?_ _) | (with_reducible refine Kd.C_drewN ?_ _) | (with_reducible refine Kd.C_drew ?_))); (case side2 => exact HC1.out); rintro e w' ⟨rfl, ⟨nd, rfl⟩⟩) | (go_at_call 53; (with_reducible refine (tickingref06_has.calls kj40 _ _ l1 ((rd_T39 l0 ((rd_T23 l1 x5_1).f1)).f1) ((rd_T39 l0 ((rd_T23 l1 x5_1).f0)).f1) false _ ?side1 ?side2 A55.out).mono ?_); (case side1 => repeat (first | exact (Kd.C_below HR1.out (by repeat (first | (with_reducible first | exact HB.out | apply below_alloc | apply pw_below_drewN | apply below_drew1 | refine below_set ?_ GE458.out | refine below_set ?_ GE459.out) | exact HB.out))) | (with_reducible refine Kd.C_alloc ?_ _) | (with_reducible refine Kd.C_drewN ?_ _) | (with_reducible refine Kd.C_drew ?_))); (case side2 => exact HC1.out); rintro e w' ⟨rfl, ⟨nd, rfl⟩⟩))
         go_ret
         exact ⟨by first | rfl | (simp [errW_none, errW_some] <;> rfl) | (simp [*, errW_none, errW_some] <;> rfl), by repeat (first | (with_reducible first | exact HB.out | apply below_alloc | apply pw_below_drewN | apply below_drew1 | refine below_set ?_ GE458.out | refine below_set ?_ GE459.out) | exact HB.out)⟩
        subst c56
        have H1 : (tickingref06_Closed.l0 kj40 l0 l1 (wrap64 (x5_1 + 1))) = some r := by rw [if_pos rfl] at H; exact H
        clear H
        have H := H1
        clear H1
        have H' := Aside0.mk H
        clear H
        have hnb57 := NB458_459.out
        have hnc57 := NB459_458.out
        have hcz58_0 : wc.cell? ⟨gb458, 0, none⟩ = some (.int .i64 ((rd_T39 l0 ((rd_T23 l1 x5_1).f0)).f0)) := (blk_cell BK458.out 0).trans rfl
        have hcz58_1 : wc.cell? ⟨gb458, 1, none⟩ = some (.int .i64 ((rd_T39 l0 ((rd_T23 l1 x5_1).f0)).f1)) := (blk_cell BK458.out 1).trans rfl
        have hcz58_2 : wc.cell? ⟨gb458, 2, none⟩ = some (.int .i64 ((rd_T39 l0 ((rd_T23 l1 x5_1).f0)).f2)) := (blk_cell BK458.out 2).trans rfl
        have hfz58_0 := blk_frozen BK458.out 0
        have hfz58_1 := blk_frozen BK458.out 1
        have hfz58_2 := blk_frozen BK458.out 2
        have hcz59_0 : wc.cell? ⟨gb459, 0, none⟩ = some (.int .i64 ((rd_T39 l0 ((rd_T23 l1 x5_1).f1)).f0)) := (blk_cell BK459.out 0).trans rfl
        have hcz59_1 : wc.cell? ⟨gb459, 1, none⟩ = some (.int .i64 ((rd_T39 l0 ((rd_T23 l1 x5_1).f1)).f1)) := (blk_cell BK459.out 1).trans rfl
        have hcz59_2 : wc.cell? ⟨gb459, 2, none⟩ = some (.int .i64 ((rd_T39 l0 ((rd_T23 l1 x5_1).f1)).f2)) := (blk_cell BK459.out 2).trans rfl
        have hfz59_0 := blk_frozen BK459.out 0
        have hfz59_1 := blk_frozen BK459.out 1
        have hfz59_2 := blk_frozen BK459.out 2
        go_wp2_with (first | (go_at_call 53; (with_reducible refine (tickingref06_has.calls kj40 _ _ l1 ((rd_T39 l0 ((rd_T23 l1 x5_1).f0)).f1) ((rd_T39 l0 ((rd_T23 l1 x5_1).f1)).f1) true _ ?side1 ?side2 A52.out).mono ?_); (case side1 => repeat (first | exact (Kd.C_below HR1.out HB.out) | (with_reducible refine Kd.C_alloc ?_ _) | (with_reducible refine Kd.C_drewN ?_ _) | (with_reducible refine Kd.C_drew ?_))); (case side2 => exact HC1.out); rintro e w' ⟨rfl, ⟨nd, rfl⟩⟩) | (go_at_call 53; (with_reducible refine (tickingref06_has.calls kj40 _ _ l1 ((rd_T39 l0 ((rd_T23 l1 x5_1).f1)).f1) ((rd_T39 l0 ((rd_T23 l1 x5_1).f0)).f1) true _ ?side1 ?side2 A55.out).mono ?_); (case side1 => repeat (first | exact (Kd.C_below HR1.out (by repeat (first | (with_reducible first | exact HB.out | apply below_alloc | apply pw_below_drewN | apply below_drew1 | refine below_set ?_ GE458.out | refine below_set ?_ GE459.out) | exact HB.out))) | (with_reducible refine Kd.C_alloc ?_ _) | (with_reducible refine Kd.C_drewN ?_ _) | (with_reducible refine Kd.C_drew ?_))); (case side2 => exact HC1.out); rintro e w' ⟨rfl, ⟨nd, rfl⟩⟩))
        go_roundg kj40
        case measure => have := HK1.out; have := HJ4.out; have := HJ14.out; have := HJ40.out; omega
        exact ⟨(wrap64 (x5_1 + 1)), (by first | rfl | (simp; done) | (simp [*]; done)), H', ⟨by have := HK1.out; have := HJ4.out; have := HJ14.out; have := HJ40.out; omega⟩, ⟨by repeat (first | (with_reducible first | exact HB.out | apply below_alloc | apply pw_below_drewN | apply below_drew1 | refine below_set ?_ GE458.out | refine below_set ?_ GE459.out) | exact HB.out)⟩⟩
end Go.Proofs.Ytnfmeafiaipplaa.S
