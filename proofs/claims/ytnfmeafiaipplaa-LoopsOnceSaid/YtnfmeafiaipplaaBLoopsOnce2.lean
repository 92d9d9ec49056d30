-- Written by wip/bundle2.py: texts of this claim, one behind the other.
import Derived.Test.YtnfmeafiaipplaaBLoopsOnce1
import Derived.Maps.RangeRun
import Derived.Scope
import Derived.Laws.IdiomStrings
set_option linter.unusedVariables false
set_option linter.unusedSimpArgs false

namespace Go.Proofs.Ytnfmeafiaipplaa.S
open Go.Proofs.Ytnfmeafiaipplaa.Lib
open Go.Maps (Keyed)
open Go.RowKit Go.Proofs.YtnfmeafiaipplaaW.PrintWords Go.Proofs.YtnfmeafiaipplaaW.PrintLast Go.Proofs.YtnfmeafiaipplaaW.PrintMore
attribute [local go_sem] max2_int min2_int max_two min_two max_three min_three max_four min_four
set_option linter.unusedVariables false
set_option linter.unusedSimpArgs false

def tickinglaw06_awake.j0 : Nat → Bool → Option (Bool)
 | 0, _ => none
 | k + 1, x87 => if x87 = true then (some false) else (some true)
def tickinglaw06_awake.f (k : Nat)  : Option (Bool) := (some (([(⟨4, 1, 0⟩ : S39), (⟨2, 0, 0⟩ : S39), (⟨3, 0, 0⟩ : S39), (⟨5, 4, 1⟩ : S39), (⟨1, 0, 0⟩ : S39), (⟨5, 1, 4⟩ : S39)] : List (S39)) : List (S39))).bind fun y167 => ((loops_Sub.f k y167 1 2).bind fun bt170 => ((loops_Sub.f k y167 3 5).bind fun bt177 => ((loops_Canonical.f k y167 0).bind fun bt184 => ((loops_Depth.f k y167 3).bind fun bt188 => ((loops_Depth.f k y167 0).bind fun bt190 => (if bt170.2.2.2 = 0 then (if bt170.1 = true then (tickinglaw06_awake.j0 k true) else (if bt170.2.2.1.toList = ([] : List UInt8) then (if bt177.2.2.2 = 0 then (if bt177.1 = true then (if bt184.2 = 0 then ((tickinglaw06_types.f k bt184.1 (([(⟨4, 1, 0⟩ : S39), (⟨2, 0, 0⟩ : S39)] : List (S39)))).bind fun t195 => (if t195 = true then (if bt188.2 = 0 then (if bt188.1 = 1 then (tickinglaw06_awake.j0 k (bt190.2 != 6)) else (tickinglaw06_awake.j0 k true)) else (tickinglaw06_awake.j0 k true)) else (tickinglaw06_awake.j0 k true))) else (tickinglaw06_awake.j0 k true)) else (tickinglaw06_awake.j0 k true)) else (tickinglaw06_awake.j0 k true)) else (tickinglaw06_awake.j0 k true))) else (tickinglaw06_awake.j0 k true)))))))
theorem tickinglaw06_awake.mono_l : ∀ k, (∀ y0, LeO (tickinglaw06_awake.j0 k y0) (tickinglaw06_awake.j0 (k + 1) y0))
 | 0 => fun _ r h => by simp [tickinglaw06_awake.j0] at h
 | k + 1 => by
  have ih0 := tickinglaw06_awake.mono_l k
  ·intro y0
   unfold tickinglaw06_awake.j0
   repeat' first
   | (with_reducible exact ih0 _)
   | (with_reducible exact loops_Canonical.mono _ _ _)
   | (with_reducible exact loops_Depth.mono _ _ _)
   | (with_reducible exact loops_Sub.mono _ _ _ _)
   | (with_reducible exact tickinglaw06_types.mono _ _ _)
   | (with_reducible exact LeO.refl _)
   | (with_reducible exact LeO.none _)
   | (with_reducible refine LeO.ite ?_ ?_)
   | (with_reducible refine LeO.bind ?_ (fun _ => ?_))
   | exact ih0 _
   | exact loops_Canonical.mono _ _ _
   | exact loops_Depth.mono _ _ _
   | exact loops_Sub.mono _ _ _ _
   | exact tickinglaw06_types.mono _ _ _
   | exact LeO.none _
   | refine LeO.ite ?_ ?_
   | refine LeO.bind ?_ (fun _ => ?_)
theorem tickinglaw06_awake.mono : ∀ k, LeO (tickinglaw06_awake.f k ) (tickinglaw06_awake.f (k + 1) ) := by
 intro  k
 have ih0 := tickinglaw06_awake.mono_l k
 unfold tickinglaw06_awake.f
 repeat' first
   | (with_reducible exact ih0 _)
   | (with_reducible exact loops_Canonical.mono _ _ _)
   | (with_reducible exact loops_Depth.mono _ _ _)
   | (with_reducible exact loops_Sub.mono _ _ _ _)
   | (with_reducible exact tickinglaw06_types.mono _ _ _)
   | (with_reducible exact LeO.refl _)
   | (with_reducible exact LeO.none _)
   | (with_reducible refine LeO.ite ?_ ?_)
   | (with_reducible refine LeO.bind ?_ (fun _ => ?_))
   | exact ih0 _
   | exact loops_Canonical.mono _ _ _
   | exact loops_Depth.mono _ _ _
   | exact loops_Sub.mono _ _ _ _
   | exact tickinglaw06_types.mono _ _ _
   | exact LeO.none _
   | refine LeO.ite ?_ ?_
   | refine LeO.bind ?_ (fun _ => ?_)
set_option maxHeartbeats 8000000 in
set_option maxRecDepth 100000 in
theorem tickinglaw06_awake.calls (k : Nat)  (r : Bool) (w : World) (h : tickinglaw06_awake.f k  = some r) :
  Calls Try.prog 19 #[] w fun e w' => e = .returned (.bool r) ∧ Below w.heap.size w w' := by
 have hu39 := Try.underlying39
 have hu55 := Try.underlying55
 have HB := Aside0.mk (Below.refl w.heap.size w)
 have H : ((some (([(⟨4, 1, 0⟩ : S39), (⟨2, 0, 0⟩ : S39), (⟨3, 0, 0⟩ : S39), (⟨5, 4, 1⟩ : S39), (⟨1, 0, 0⟩ : S39), (⟨5, 1, 4⟩ : S39)] : List (S39)) : List (S39))).bind fun y167 => ((loops_Sub.f k y167 1 2).bind fun bt170 => ((loops_Sub.f k y167 3 5).bind fun bt177 => ((loops_Canonical.f k y167 0).bind fun bt184 => ((loops_Depth.f k y167 3).bind fun bt188 => ((loops_Depth.f k y167 0).bind fun bt190 => (if bt170.2.2.2 = 0 then (if bt170.1 = true then (tickinglaw06_awake.j0 k true) else (if bt170.2.2.1.toList = ([] : List UInt8) then (if bt177.2.2.2 = 0 then (if bt177.1 = true then (if bt184.2 = 0 then ((tickinglaw06_types.f k bt184.1 (([(⟨4, 1, 0⟩ : S39), (⟨2, 0, 0⟩ : S39)] : List (S39)))).bind fun t195 => (if t195 = true then (if bt188.2 = 0 then (if bt188.1 = 1 then (tickinglaw06_awake.j0 k (bt190.2 != 6)) else (tickinglaw06_awake.j0 k true)) else (tickinglaw06_awake.j0 k true)) else (tickinglaw06_awake.j0 k true))) else (tickinglaw06_awake.j0 k true)) else (tickinglaw06_awake.j0 k true)) else (tickinglaw06_awake.j0 k true)) else (tickinglaw06_awake.j0 k true))) else (tickinglaw06_awake.j0 k true)))))))) = some r := h
 clear h
 obtain ⟨y167, hy167⟩ : ∃ y_ : List (S39), y_ = (([(⟨4, 1, 0⟩ : S39), (⟨2, 0, 0⟩ : S39), (⟨3, 0, 0⟩ : S39), (⟨5, 4, 1⟩ : S39), (⟨1, 0, 0⟩ : S39), (⟨5, 1, 4⟩ : S39)] : List (S39))) := ⟨_, rfl⟩
 replace H : ((loops_Sub.f k y167 1 2).bind fun bt170 => ((loops_Sub.f k y167 3 5).bind fun bt177 => ((loops_Canonical.f k y167 0).bind fun bt184 => ((loops_Depth.f k y167 3).bind fun bt188 => ((loops_Depth.f k y167 0).bind fun bt190 => (if bt170.2.2.2 = 0 then (if bt170.1 = true then (tickinglaw06_awake.j0 k true) else (if bt170.2.2.1.toList = ([] : List UInt8) then (if bt177.2.2.2 = 0 then (if bt177.1 = true then (if bt184.2 = 0 then ((tickinglaw06_types.f k bt184.1 (([(⟨4, 1, 0⟩ : S39), (⟨2, 0, 0⟩ : S39)] : List (S39)))).bind fun t195 => (if t195 = true then (if bt188.2 = 0 then (if bt188.1 = 1 then (tickinglaw06_awake.j0 k (bt190.2 != 6)) else (tickinglaw06_awake.j0 k true)) else (tickinglaw06_awake.j0 k true)) else (tickinglaw06_awake.j0 k true))) else (tickinglaw06_awake.j0 k true)) else (tickinglaw06_awake.j0 k true)) else (tickinglaw06_awake.j0 k true)) else (tickinglaw06_awake.j0 k true))) else (tickinglaw06_awake.j0 k true))))))) = some r := by first | (rw [hy167]; with_reducible exact H) | (have H2_ := (Option.bind_some _ _).symm.trans H; rw [hy167]; with_reducible exact H2_) | (have H2_ := (Option.bind_some _ _).symm.trans H; with_reducible exact H2_) | with_reducible exact H | (rw [hy167]; exact H) | exact H
 have Ny167 := Aside0.mk hy167
 clear hy167
 replace H := Option.bind_eq_some_iff.mp H
 obtain ⟨⟨t170, t171, t174, t175⟩, A10, H⟩ := H
 replace H : ((loops_Sub.f k y167 3 5).bind fun bt177 => ((loops_Canonical.f k y167 0).bind fun bt184 => ((loops_Depth.f k y167 3).bind fun bt188 => ((loops_Depth.f k y167 0).bind fun bt190 => (if t175 = 0 then (if t170 = true then (tickinglaw06_awake.j0 k true) else (if t174.toList = ([] : List UInt8) then (if bt177.2.2.2 = 0 then (if bt177.1 = true then (if bt184.2 = 0 then ((tickinglaw06_types.f k bt184.1 (([(⟨4, 1, 0⟩ : S39), (⟨2, 0, 0⟩ : S39)] : List (S39)))).bind fun t195 => (if t195 = true then (if bt188.2 = 0 then (if bt188.1 = 1 then (tickinglaw06_awake.j0 k (bt190.2 != 6)) else (tickinglaw06_awake.j0 k true)) else (tickinglaw06_awake.j0 k true)) else (tickinglaw06_awake.j0 k true))) else (tickinglaw06_awake.j0 k true)) else (tickinglaw06_awake.j0 k true)) else (tickinglaw06_awake.j0 k true)) else (tickinglaw06_awake.j0 k true))) else (tickinglaw06_awake.j0 k true)))))) = some r := H
 have A1 := Aside0.mk A10
 clear A10
 replace H := Option.bind_eq_some_iff.mp H
 obtain ⟨⟨t177, t178, t181, t182⟩, A20, H⟩ := H
 replace H : ((loops_Canonical.f k y167 0).bind fun bt184 => ((loops_Depth.f k y167 3).bind fun bt188 => ((loops_Depth.f k y167 0).bind fun bt190 => (if t175 = 0 then (if t170 = true then (tickinglaw06_awake.j0 k true) else (if t174.toList = ([] : List UInt8) then (if t182 = 0 then (if t177 = true then (if bt184.2 = 0 then ((tickinglaw06_types.f k bt184.1 (([(⟨4, 1, 0⟩ : S39), (⟨2, 0, 0⟩ : S39)] : List (S39)))).bind fun t195 => (if t195 = true then (if bt188.2 = 0 then (if bt188.1 = 1 then (tickinglaw06_awake.j0 k (bt190.2 != 6)) else (tickinglaw06_awake.j0 k true)) else (tickinglaw06_awake.j0 k true)) else (tickinglaw06_awake.j0 k true))) else (tickinglaw06_awake.j0 k true)) else (tickinglaw06_awake.j0 k true)) else (tickinglaw06_awake.j0 k true)) else (tickinglaw06_awake.j0 k true))) else (tickinglaw06_awake.j0 k true))))) = some r := H
 have A2 := Aside0.mk A20
 clear A20
 replace H := Option.bind_eq_some_iff.mp H
 obtain ⟨⟨t184, t185⟩, A30, H⟩ := H
 replace H : ((loops_Depth.f k y167 3).bind fun bt188 => ((loops_Depth.f k y167 0).bind fun bt190 => (if t175 = 0 then (if t170 = true then (tickinglaw06_awake.j0 k true) else (if t174.toList = ([] : List UInt8) then (if t182 = 0 then (if t177 = true then (if t185 = 0 then ((tickinglaw06_types.f k t184 (([(⟨4, 1, 0⟩ : S39), (⟨2, 0, 0⟩ : S39)] : List (S39)))).bind fun t195 => (if t195 = true then (if bt188.2 = 0 then (if bt188.1 = 1 then (tickinglaw06_awake.j0 k (bt190.2 != 6)) else (tickinglaw06_awake.j0 k true)) else (tickinglaw06_awake.j0 k true)) else (tickinglaw06_awake.j0 k true))) else (tickinglaw06_awake.j0 k true)) else (tickinglaw06_awake.j0 k true)) else (tickinglaw06_awake.j0 k true)) else (tickinglaw06_awake.j0 k true))) else (tickinglaw06_awake.j0 k true)))) = some r := H
 have A3 := Aside0.mk A30
 clear A30
 replace H := Option.bind_eq_some_iff.mp H
 obtain ⟨⟨t188, t189⟩, A40, H⟩ := H
 replace H : ((loops_Depth.f k y167 0).bind fun bt190 => (if t175 = 0 then (if t170 = true then (tickinglaw06_awake.j0 k true) else (if t174.toList = ([] : List UInt8) then (if t182 = 0 then (if t177 = true then (if t185 = 0 then ((tickinglaw06_types.f k t184 (([(⟨4, 1, 0⟩ : S39), (⟨2, 0, 0⟩ : S39)] : List (S39)))).bind fun t195 => (if t195 = true then (if t189 = 0 then (if t188 = 1 then (tickinglaw06_awake.j0 k (bt190.2 != 6)) else (tickinglaw06_awake.j0 k true)) else (tickinglaw06_awake.j0 k true)) else (tickinglaw06_awake.j0 k true))) else (tickinglaw06_awake.j0 k true)) else (tickinglaw06_awake.j0 k true)) else (tickinglaw06_awake.j0 k true)) else (tickinglaw06_awake.j0 k true))) else (tickinglaw06_awake.j0 k true))) = some r := H
 have A4 := Aside0.mk A40
 clear A40
 replace H := Option.bind_eq_some_iff.mp H
 obtain ⟨⟨t190, t191⟩, A50, H⟩ := H
 replace H : (if t175 = 0 then (if t170 = true then (tickinglaw06_awake.j0 k true) else (if t174.toList = ([] : List UInt8) then (if t182 = 0 then (if t177 = true then (if t185 = 0 then ((tickinglaw06_types.f k t184 (([(⟨4, 1, 0⟩ : S39), (⟨2, 0, 0⟩ : S39)] : List (S39)))).bind fun t195 => (if t195 = true then (if t189 = 0 then (if t188 = 1 then (tickinglaw06_awake.j0 k (t191 != 6)) else (tickinglaw06_awake.j0 k true)) else (tickinglaw06_awake.j0 k true)) else (tickinglaw06_awake.j0 k true))) else (tickinglaw06_awake.j0 k true)) else (tickinglaw06_awake.j0 k true)) else (tickinglaw06_awake.j0 k true)) else (tickinglaw06_awake.j0 k true))) else (tickinglaw06_awake.j0 k true)) = some r := H
 have A5 := Aside0.mk A50
 clear A50
 have HC6 := Aside0.mk H
 clear H
 go_enter Try.func19, Try.ntmps19
 go_upto_region 7 with (first | ((with_reducible refine gate_dst (N := 18) rfl ?_); (try (refine gate_guard (by rfl) ?_; dsimp only)); refine Kd.R_lit k39 _ 39 ?hg (N := 18) ?hd (xs := ([(⟨4, 1, 0⟩ : S39), (⟨2, 0, 0⟩ : S39), (⟨3, 0, 0⟩ : S39), (⟨5, 4, 1⟩ : S39), (⟨1, 0, 0⟩ : S39), (⟨5, 1, 4⟩ : S39)] : List (S39))) (inner := [.int .i64 4, .int .i64 1, .int .i64 0, .int .i64 2, .int .i64 0, .int .i64 0, .int .i64 3, .int .i64 0, .int .i64 0, .int .i64 5, .int .i64 4, .int .i64 1, .int .i64 1, .int .i64 0, .int .i64 0, .int .i64 5, .int .i64 1, .int .i64 4]) (ok := fun _ => True) (okp := fun _ => True) ?hr ?hp (fun _ hk => hk) trivial (Below.refl _ _) (Nat.le_refl _) (by simp) ?_; (case hd => rfl); (case hg => rfl); (case hr => first | (go_simp; done) | (go_simp; rfl)); (case hp => exact (Reps.c3 (show Kd.M k39 _ _ _ (⟨4, 1, 0⟩ : S39) [.int .i64 4, .int .i64 1, .int .i64 0] from (k39_mkM _ _ _ (⟨4, 1, 0⟩ : S39) )) (Reps.c3 (show Kd.M k39 _ _ _ (⟨2, 0, 0⟩ : S39) [.int .i64 2, .int .i64 0, .int .i64 0] from (k39_mkM _ _ _ (⟨2, 0, 0⟩ : S39) )) (Reps.c3 (show Kd.M k39 _ _ _ (⟨3, 0, 0⟩ : S39) [.int .i64 3, .int .i64 0, .int .i64 0] from (k39_mkM _ _ _ (⟨3, 0, 0⟩ : S39) )) (Reps.c3 (show Kd.M k39 _ _ _ (⟨5, 4, 1⟩ : S39) [.int .i64 5, .int .i64 4, .int .i64 1] from (k39_mkM _ _ _ (⟨5, 4, 1⟩ : S39) )) (Reps.c3 (show Kd.M k39 _ _ _ (⟨1, 0, 0⟩ : S39) [.int .i64 1, .int .i64 0, .int .i64 0] from (k39_mkM _ _ _ (⟨1, 0, 0⟩ : S39) )) (Reps.c3 (show Kd.M k39 _ _ _ (⟨5, 1, 4⟩ : S39) [.int .i64 5, .int .i64 1, .int .i64 4] from (k39_mkM _ _ _ (⟨5, 1, 4⟩ : S39) )) (Reps.none _ _)))))))); intro v168 w7 ho8 hb hg_ hnew_; clear hg_ hnew_; (first | rw [← Ny167.out] at ho8 | (simp only [Int.reduceToNat] at ho8; rw [← Ny167.out] at ho8)); have n0_ := Aside0.mk (Kd.R_lower ho8 (below_size (by repeat (first | (with_reducible first | exact HB.out | apply below_alloc | apply pw_below_drewN | apply below_drew1) | exact HB.out)))); have n1_ := Aside0.mk (below_step (by repeat (first | (with_reducible first | exact HB.out | apply below_alloc | apply pw_below_drewN | apply below_drew1) | exact HB.out)) hb); clear HB; have HO169 := n0_; have HB := n1_; clear n0_ n1_; clear hb ho8; obtain ⟨Ao9, co9, eo9⟩ := Kd.R_slice HO169.out; subst eo9) | ((with_reducible refine gate_callee (f := 33) rfl ?_); refine goesL_ (some 21) rfl rfl Try.func33 (by kernel_rfl) rfl #[.slice Ao9 y167.length co9, .int .i64 1, .int .i64 2] rfl (by (try simp only [List.map_toArray, List.map_cons, List.map_nil]); first | done | rfl | (simp only [List.length_drop, List.length_take]; rfl)) ?_; (with_reducible refine (loops_Sub.calls k _ _ y167 1 2 t170 t171 t174 t175 _ ?side1 ?side2 A1.out).mono ?_); (case side1 => repeat (first | exact (Kd.R_reads' HO169.out).2.2 | (with_reducible refine Kd.C_alloc ?_ _) | (with_reducible refine Kd.C_drewN ?_ _) | (with_reducible refine Kd.C_drew ?_))); (case side2 => exact (Kd.R_reads' HO169.out).2.1); rintro e w10 ⟨v172, rfl, ho0, hb⟩; refine ⟨_, rfl, ?_⟩; have n0_ := Aside0.mk (Kd.R_below (by (with_reducible repeat (first | apply Kd.R_alloc | apply Kd.R_drewN | apply Kd.R_drew)); exact HO169.out) hb); have n1_ := Aside0.mk (Kd.R_lower ho0 (below_size (by repeat (first | (with_reducible first | exact HB.out | apply below_alloc | apply pw_below_drewN | apply below_drew1) | exact HB.out)))); have n2_ := Aside0.mk (below_step (by repeat (first | (with_reducible first | exact HB.out | apply below_alloc | apply pw_below_drewN | apply below_drew1) | exact HB.out)) hb); clear HO169; clear HB; have HO169 := n0_; have HO173 := n1_; have HB := n2_; clear n0_ n1_ n2_; (try clear hb); (try clear hb2); (try clear hk); (try clear hi); (try clear ho0)) | ((with_reducible refine gate_dst (N := 2) rfl ?_); (try (refine gate_guard (by rfl) ?_; dsimp only)); refine box_event ?hg (N := 2) ?hd (cs := #[.bool false, .slice none 0 0, .string (⟨#[]⟩ : ByteArray)]) (t := 55) ?hr ?_; (case hd => rfl); (case hg => rfl); (case hr => first | (go_simp; done) | (go_simp; rfl)); intro gb176 hg w11 hbox hb; have n0_ := Aside0.mk (Kd.R_below (by (with_reducible repeat (first | apply Kd.R_alloc | apply Kd.R_drewN | apply Kd.R_drew)); exact HO169.out) hb); have n1_ := Aside0.mk (Kd.R_below (by (with_reducible repeat (first | apply Kd.R_alloc | apply Kd.R_drewN | apply Kd.R_drew)); exact HO173.out) hb); have n2_ := Aside0.mk (below_step (by repeat (first | (with_reducible first | exact HB.out | apply below_alloc | apply pw_below_drewN | apply below_drew1) | exact HB.out)) hb); have n3_ := Aside0.mk (hbox); have n4_ := Aside0.mk ((by rw [hg]; exact (below_size (by repeat (first | (with_reducible first | exact HB.out | apply below_alloc | apply pw_below_drewN | apply below_drew1) | exact HB.out))) : w.heap.size ≤ gb176)); have n5_ := Aside0.mk ((by rw [hg]; exact (below_size (by repeat (first | (with_reducible first | exact HB.out | apply below_alloc | apply pw_below_drewN | apply below_drew1) | exact HB.out))) : w.heap.size ≤ gb176)); clear HO169; clear HO173; clear HB; have HO169 := n0_; have HO173 := n1_; have HB := n2_; have BK176 := n3_; have GW176 := n4_; have GE176 := n5_; clear n0_ n1_ n2_ n3_ n4_ n5_; clear hb hbox hg; have hcz12_0 : w11.cell? ⟨gb176, 0, none⟩ = some (.bool false) := (blk_cell BK176.out 0).trans rfl; have hcz12_1 : w11.cell? ⟨gb176, 1, none⟩ = some (.slice none 0 0) := (blk_cell BK176.out 1).trans rfl; have hcz12_2 : w11.cell? ⟨gb176, 2, none⟩ = some (.string (⟨#[]⟩ : ByteArray)) := (blk_cell BK176.out 2).trans rfl; have hfz12_0 := blk_frozen BK176.out 0; have hfz12_1 := blk_frozen BK176.out 1; have hfz12_2 := blk_frozen BK176.out 2; obtain ⟨Ao13, co13, eo13⟩ := Kd.R_slice HO173.out; subst eo13) | ((with_reducible refine gate_callee (f := 33) rfl ?_); refine goesL_ (some 26) rfl rfl Try.func33 (by kernel_rfl) rfl #[.slice Ao9 y167.length co9, .int .i64 3, .int .i64 5] rfl (by (try simp only [List.map_toArray, List.map_cons, List.map_nil]); first | done | rfl | (simp only [List.length_drop, List.length_take]; rfl)) ?_; (with_reducible refine (loops_Sub.calls k _ _ y167 3 5 t177 t178 t181 t182 _ ?side1 ?side2 A2.out).mono ?_); (case side1 => refine (Kd.R_reads' (e := 39) (base := w.heap.size) (ok := fun k_ => True) (n := y167.length) (c := co9) ?_).2.2; exact (by (with_reducible repeat (first | apply Kd.R_alloc | apply Kd.R_drewN | apply Kd.R_drew)); exact (Kd.R_mono (Kd.R_far (p := ⟨gb176, 2, none⟩) (Kd.R_far (p := ⟨gb176, 1, none⟩) (Kd.R_far (p := ⟨gb176, 0, none⟩) (Kd.R_types HO169.out BK176.out (by decide)) (fun _ hk => hk.2) (.bool t170)) (fun _ hk => hk.2) (.slice Ao13 t171.length co13)) (fun _ hk => hk.2) (.string t174)) (fun _ h_ => h_.1)))); (case side2 => exact (Kd.R_reads' HO169.out).2.1); rintro e w14 ⟨v179, rfl, ho0, hb⟩; refine ⟨_, rfl, ?_⟩; have n0_ := Aside0.mk (Kd.R_below (by (with_reducible repeat (first | apply Kd.R_alloc | apply Kd.R_drewN | apply Kd.R_drew)); exact (Kd.R_mono (Kd.R_far (p := ⟨gb176, 2, none⟩) (Kd.R_far (p := ⟨gb176, 1, none⟩) (Kd.R_far (p := ⟨gb176, 0, none⟩) (Kd.R_types HO169.out BK176.out (by decide)) (fun _ hk => hk.2) (.bool t170)) (fun _ hk => hk.2) (.slice Ao13 t171.length co13)) (fun _ hk => hk.2) (.string t174)) (fun _ h_ => h_.1))) hb); have n1_ := Aside0.mk (Kd.R_elder' (by (with_reducible repeat (first | apply Kd.R_alloc | apply Kd.R_drewN | apply Kd.R_drew)); exact (Kd.R_mono (Kd.R_far (p := ⟨gb176, 2, none⟩) (Kd.R_far (p := ⟨gb176, 1, none⟩) (Kd.R_far (p := ⟨gb176, 0, none⟩) (Kd.R_types HO173.out BK176.out (by decide)) (fun _ hk => hk.2) (.bool t170)) (fun _ hk => hk.2) (.slice Ao13 t171.length co13)) (fun _ hk => hk.2) (.string t174)) (fun _ h_ => h_.1))) (Kd.R_base ho0) hb); have n2_ := Aside0.mk (Kd.R_lower (Kd.R_new' ho0 (Kd.R_lt (by (with_reducible repeat (first | apply Kd.R_alloc | apply Kd.R_drewN | apply Kd.R_drew)); exact (Kd.R_mono (Kd.R_far (p := ⟨gb176, 2, none⟩) (Kd.R_far (p := ⟨gb176, 1, none⟩) (Kd.R_far (p := ⟨gb176, 0, none⟩) (Kd.R_types HO173.out BK176.out (by decide)) (fun _ hk => hk.2) (.bool t170)) (fun _ hk => hk.2) (.slice Ao13 t171.length co13)) (fun _ hk => hk.2) (.string t174)) (fun _ h_ => h_.1))))) (below_size (by repeat (first | (with_reducible first | exact HB.out | apply below_alloc | apply pw_below_drewN | apply below_drew1 | refine below_set ?_ GE176.out) | exact HB.out)))); have n3_ := Aside0.mk (blk_below (g := gb176) (o := .cells #[.bool t170, .slice Ao13 t171.length co13, .string t174] 55 (0, 0)) (by (with_reducible repeat (first | refine blk_drewN ?_ _ | refine blk_drew ?_ | refine blk_alloc ?_ _)); refine blk_put (cs := #[.bool t170, .slice Ao13 t171.length co13, .string (⟨#[]⟩ : ByteArray)]) ?_ 2 _ rfl; (with_reducible repeat (first | refine blk_drewN ?_ _ | refine blk_drew ?_ | refine blk_alloc ?_ _)); refine blk_put (cs := #[.bool t170, .slice none 0 0, .string (⟨#[]⟩ : ByteArray)]) ?_ 1 _ rfl; (with_reducible repeat (first | refine blk_drewN ?_ _ | refine blk_drew ?_ | refine blk_alloc ?_ _)); refine blk_put (cs := #[.bool false, .slice none 0 0, .string (⟨#[]⟩ : ByteArray)]) ?_ 0 _ rfl; (with_reducible repeat (first | refine blk_drewN ?_ _ | refine blk_drew ?_ | refine blk_alloc ?_ _)); exact BK176.out) hb); have n4_ := Aside0.mk (below_step (by repeat (first | (with_reducible first | exact HB.out | apply below_alloc | apply pw_below_drewN | apply below_drew1 | refine below_set ?_ GE176.out) | exact HB.out)) hb); clear HO169; clear HO173; clear BK176; clear HB; have HO169 := n0_; have HO173 := n1_; have HO180 := n2_; have BK176 := n3_; have HB := n4_; clear n0_ n1_ n2_ n3_ n4_; (try clear hb); (try clear hb2); (try clear hk); (try clear hi); (try clear ho0)) | ((with_reducible refine gate_dst (N := 4) rfl ?_); (try (refine gate_guard (by rfl) ?_; dsimp only)); refine box_event ?hg (N := 4) ?hd (cs := #[.bool false, .slice none 0 0, .string (⟨#[]⟩ : ByteArray)]) (t := 55) ?hr ?_; (case hd => rfl); (case hg => rfl); (case hr => first | (go_simp; done) | (go_simp; rfl)); intro gb183 hg w15 hbox hb; have n0_ := Aside0.mk (Kd.R_below (by (with_reducible repeat (first | apply Kd.R_alloc | apply Kd.R_drewN | apply Kd.R_drew)); exact HO169.out) hb); have n1_ := Aside0.mk (Kd.R_below (by (with_reducible repeat (first | apply Kd.R_alloc | apply Kd.R_drewN | apply Kd.R_drew)); exact HO173.out) hb); have n2_ := Aside0.mk (Kd.R_below (by (with_reducible repeat (first | apply Kd.R_alloc | apply Kd.R_drewN | apply Kd.R_drew)); exact HO180.out) hb); have n3_ := Aside0.mk (blk_below (g := gb176) (o := .cells #[.bool t170, .slice Ao13 t171.length co13, .string t174] 55 (0, 0)) (by (with_reducible repeat (first | refine blk_drewN ?_ _ | refine blk_drew ?_ | refine blk_alloc ?_ _)); exact BK176.out) hb); have n4_ := Aside0.mk (below_step (by repeat (first | (with_reducible first | exact HB.out | apply below_alloc | apply pw_below_drewN | apply below_drew1 | refine below_set ?_ GE176.out) | exact HB.out)) hb); have n5_ := Aside0.mk (hbox); have n6_ := Aside0.mk ((by rw [hg]; exact (below_size (by repeat (first | (with_reducible first | exact HB.out | apply below_alloc | apply pw_below_drewN | apply below_drew1 | refine below_set ?_ GE176.out) | exact HB.out))) : w.heap.size ≤ gb183)); have n7_ := Aside0.mk ((by rw [hg]; exact (below_size (by repeat (first | (with_reducible first | exact HB.out | apply below_alloc | apply pw_below_drewN | apply below_drew1 | refine below_set ?_ GE176.out) | exact HB.out))) : w.heap.size ≤ gb183)); have n8_ := Aside0.mk ((by rw [hg]; exact Nat.ne_of_lt (blk_lt (g := gb176) (o := .cells #[.bool t170, .slice Ao13 t171.length co13, .string t174] 55 (0, 0)) (by (with_reducible repeat (first | refine blk_drewN ?_ _ | refine blk_drew ?_ | refine blk_alloc ?_ _)); exact BK176.out)) : gb176 ≠ gb183)); have n9_ := Aside0.mk ((by rw [hg]; exact Nat.ne_of_gt (blk_lt (g := gb176) (o := .cells #[.bool t170, .slice Ao13 t171.length co13, .string t174] 55 (0, 0)) (by (with_reducible repeat (first | refine blk_drewN ?_ _ | refine blk_drew ?_ | refine blk_alloc ?_ _)); exact BK176.out)) : gb183 ≠ gb176)); clear HO169; clear HO173; clear HO180; clear BK176; clear HB; have HO169 := n0_; have HO173 := n1_; have HO180 := n2_; have BK176 := n3_; have HB := n4_; have BK183 := n5_; have GW183 := n6_; have GE183 := n7_; have NB176_183 := n8_; have NB183_176 := n9_; clear n0_ n1_ n2_ n3_ n4_ n5_ n6_ n7_ n8_ n9_; clear hb hbox hg; have hnb16 := NB183_176.out; have hnc16 := NB176_183.out; have hcz17_0 : w15.cell? ⟨gb183, 0, none⟩ = some (.bool false) := (blk_cell BK183.out 0).trans rfl; have hcz17_1 : w15.cell? ⟨gb183, 1, none⟩ = some (.slice none 0 0) := (blk_cell BK183.out 1).trans rfl; have hcz17_2 : w15.cell? ⟨gb183, 2, none⟩ = some (.string (⟨#[]⟩ : ByteArray)) := (blk_cell BK183.out 2).trans rfl; have hfz17_0 := blk_frozen BK183.out 0; have hfz17_1 := blk_frozen BK183.out 1; have hfz17_2 := blk_frozen BK183.out 2; obtain ⟨Ao18, co18, eo18⟩ := Kd.R_slice HO180.out; subst eo18) | ((with_reducible refine gate_callee (f := 17) rfl ?_); refine goesL_ (some 31) rfl rfl Try.func17 (by kernel_rfl) rfl #[.slice Ao9 y167.length co9, .int .i64 0] rfl (by (try simp only [List.map_toArray, List.map_cons, List.map_nil]); first | done | rfl | (simp only [List.length_drop, List.length_take]; rfl)) ?_; (with_reducible refine (loops_Canonical.calls k _ _ y167 0 t184 t185 _ ?side1 ?side2 A3.out).mono ?_); (case side1 => refine (Kd.R_reads' (e := 39) (base := w.heap.size) (ok := fun k_ => True) (n := y167.length) (c := co9) ?_).2.2; exact (by (with_reducible repeat (first | apply Kd.R_alloc | apply Kd.R_drewN | apply Kd.R_drew)); exact (Kd.R_mono (Kd.R_far (p := ⟨gb183, 2, none⟩) (Kd.R_far (p := ⟨gb183, 1, none⟩) (Kd.R_far (p := ⟨gb183, 0, none⟩) (Kd.R_types HO169.out BK183.out (by decide)) (fun _ hk => hk.2) (.bool t177)) (fun _ hk => hk.2) (.slice Ao18 t178.length co18)) (fun _ hk => hk.2) (.string t181)) (fun _ h_ => h_.1)))); (case side2 => exact (Kd.R_reads' HO169.out).2.1); rintro e w19 ⟨v186, rfl, ho0, hb⟩; refine ⟨_, rfl, ?_⟩; have n0_ := Aside0.mk (Kd.R_elder' (by (with_reducible repeat (first | apply Kd.R_alloc | apply Kd.R_drewN | apply Kd.R_drew)); exact (Kd.R_mono (Kd.R_far (p := ⟨gb183, 2, none⟩) (Kd.R_far (p := ⟨gb183, 1, none⟩) (Kd.R_far (p := ⟨gb183, 0, none⟩) (Kd.R_types HO169.out BK183.out (by decide)) (fun _ hk => hk.2) (.bool t177)) (fun _ hk => hk.2) (.slice Ao18 t178.length co18)) (fun _ hk => hk.2) (.string t181)) (fun _ h_ => h_.1))) (Kd.R_base ho0) hb); have n1_ := Aside0.mk (Kd.R_below (by (with_reducible repeat (first | apply Kd.R_alloc | apply Kd.R_drewN | apply Kd.R_drew)); exact (Kd.R_mono (Kd.R_far (p := ⟨gb183, 2, none⟩) (Kd.R_far (p := ⟨gb183, 1, none⟩) (Kd.R_far (p := ⟨gb183, 0, none⟩) (Kd.R_types HO173.out BK183.out (by decide)) (fun _ hk => hk.2) (.bool t177)) (fun _ hk => hk.2) (.slice Ao18 t178.length co18)) (fun _ hk => hk.2) (.string t181)) (fun _ h_ => h_.1))) hb); have n2_ := Aside0.mk (Kd.R_below (by (with_reducible repeat (first | apply Kd.R_alloc | apply Kd.R_drewN | apply Kd.R_drew)); exact (Kd.R_mono (Kd.R_far (p := ⟨gb183, 2, none⟩) (Kd.R_far (p := ⟨gb183, 1, none⟩) (Kd.R_far (p := ⟨gb183, 0, none⟩) (Kd.R_types HO180.out BK183.out (by decide)) (fun _ hk => hk.2) (.bool t177)) (fun _ hk => hk.2) (.slice Ao18 t178.length co18)) (fun _ hk => hk.2) (.string t181)) (fun _ h_ => h_.1))) hb); have n3_ := Aside0.mk (Kd.R_lower (Kd.R_new' ho0 (Kd.R_lt (by (with_reducible repeat (first | apply Kd.R_alloc | apply Kd.R_drewN | apply Kd.R_drew)); exact (Kd.R_mono (Kd.R_far (p := ⟨gb183, 2, none⟩) (Kd.R_far (p := ⟨gb183, 1, none⟩) (Kd.R_far (p := ⟨gb183, 0, none⟩) (Kd.R_types HO169.out BK183.out (by decide)) (fun _ hk => hk.2) (.bool t177)) (fun _ hk => hk.2) (.slice Ao18 t178.length co18)) (fun _ hk => hk.2) (.string t181)) (fun _ h_ => h_.1))))) (below_size (by repeat (first | (with_reducible first | exact HB.out | apply below_alloc | apply pw_below_drewN | apply below_drew1 | refine below_set ?_ GE176.out | refine below_set ?_ GE183.out) | exact HB.out)))); have n4_ := Aside0.mk (blk_below (g := gb176) (o := .cells #[.bool t170, .slice Ao13 t171.length co13, .string t174] 55 (0, 0)) (by (with_reducible repeat (first | refine blk_drewN ?_ _ | refine blk_drew ?_ | refine blk_alloc ?_ _)); refine blk_far ?_ NB176_183.out _; (with_reducible repeat (first | refine blk_drewN ?_ _ | refine blk_drew ?_ | refine blk_alloc ?_ _)); refine blk_far ?_ NB176_183.out _; (with_reducible repeat (first | refine blk_drewN ?_ _ | refine blk_drew ?_ | refine blk_alloc ?_ _)); refine blk_far ?_ NB176_183.out _; (with_reducible repeat (first | refine blk_drewN ?_ _ | refine blk_drew ?_ | refine blk_alloc ?_ _)); exact BK176.out) hb); have n5_ := Aside0.mk (blk_below (g := gb183) (o := .cells #[.bool t177, .slice Ao18 t178.length co18, .string t181] 55 (0, 0)) (by (with_reducible repeat (first | refine blk_drewN ?_ _ | refine blk_drew ?_ | refine blk_alloc ?_ _)); refine blk_put (cs := #[.bool t177, .slice Ao18 t178.length co18, .string (⟨#[]⟩ : ByteArray)]) ?_ 2 _ rfl; (with_reducible repeat (first | refine blk_drewN ?_ _ | refine blk_drew ?_ | refine blk_alloc ?_ _)); refine blk_put (cs := #[.bool t177, .slice none 0 0, .string (⟨#[]⟩ : ByteArray)]) ?_ 1 _ rfl; (with_reducible repeat (first | refine blk_drewN ?_ _ | refine blk_drew ?_ | refine blk_alloc ?_ _)); refine blk_put (cs := #[.bool false, .slice none 0 0, .string (⟨#[]⟩ : ByteArray)]) ?_ 0 _ rfl; (with_reducible repeat (first | refine blk_drewN ?_ _ | refine blk_drew ?_ | refine blk_alloc ?_ _)); exact BK183.out) hb); have n6_ := Aside0.mk (below_step (by repeat (first | (with_reducible first | exact HB.out | apply below_alloc | apply pw_below_drewN | apply below_drew1 | refine below_set ?_ GE176.out | refine below_set ?_ GE183.out) | exact HB.out)) hb); clear HO169; clear HO173; clear HO180; clear BK176; clear BK183; clear HB; have HO169 := n0_; have HO173 := n1_; have HO180 := n2_; have HO187 := n3_; have BK176 := n4_; have BK183 := n5_; have HB := n6_; clear n0_ n1_ n2_ n3_ n4_ n5_ n6_; (try clear hb); (try clear hb2); (try clear hk); (try clear hi); (try clear ho0)) | ((with_reducible refine gate_callee (f := 28) rfl ?_); refine goesL_ (some 36) rfl rfl Try.func28 (by kernel_rfl) rfl #[.slice Ao9 y167.length co9, .int .i64 3] rfl (by (try simp only [List.map_toArray, List.map_cons, List.map_nil]); first | done | rfl | (simp only [List.length_drop, List.length_take]; rfl)) ?_; (with_reducible refine (loops_Depth.calls k _ _ y167 3 t188 t189 _ ?side1 ?side2 A4.out).mono ?_); (case side1 => repeat (first | exact (Kd.R_reads' HO169.out).2.2 | (with_reducible refine Kd.C_alloc ?_ _) | (with_reducible refine Kd.C_drewN ?_ _) | (with_reducible refine Kd.C_drew ?_))); (case side2 => exact (Kd.R_reads' HO169.out).2.1); rintro e w20 ⟨rfl, hb⟩; refine ⟨_, rfl, ?_⟩; have n0_ := Aside0.mk (Kd.R_below (by (with_reducible repeat (first | apply Kd.R_alloc | apply Kd.R_drewN | apply Kd.R_drew)); exact HO169.out) hb); have n1_ := Aside0.mk (Kd.R_below (by (with_reducible repeat (first | apply Kd.R_alloc | apply Kd.R_drewN | apply Kd.R_drew)); exact HO173.out) hb); have n2_ := Aside0.mk (Kd.R_below (by (with_reducible repeat (first | apply Kd.R_alloc | apply Kd.R_drewN | apply Kd.R_drew)); exact HO180.out) hb); have n3_ := Aside0.mk (Kd.R_below (by (with_reducible repeat (first | apply Kd.R_alloc | apply Kd.R_drewN | apply Kd.R_drew)); exact HO187.out) hb); have n4_ := Aside0.mk (blk_below (g := gb176) (o := .cells #[.bool t170, .slice Ao13 t171.length co13, .string t174] 55 (0, 0)) (by (with_reducible repeat (first | refine blk_drewN ?_ _ | refine blk_drew ?_ | refine blk_alloc ?_ _)); exact BK176.out) hb); have n5_ := Aside0.mk (blk_below (g := gb183) (o := .cells #[.bool t177, .slice Ao18 t178.length co18, .string t181] 55 (0, 0)) (by (with_reducible repeat (first | refine blk_drewN ?_ _ | refine blk_drew ?_ | refine blk_alloc ?_ _)); exact BK183.out) hb); have n6_ := Aside0.mk (below_step (by repeat (first | (with_reducible first | exact HB.out | apply below_alloc | apply pw_below_drewN | apply below_drew1 | refine below_set ?_ GE176.out | refine below_set ?_ GE183.out) | exact HB.out)) hb); clear HO169; clear HO173; clear HO180; clear HO187; clear BK176; clear BK183; clear HB; have HO169 := n0_; have HO173 := n1_; have HO180 := n2_; have HO187 := n3_; have BK176 := n4_; have BK183 := n5_; have HB := n6_; clear n0_ n1_ n2_ n3_ n4_ n5_ n6_; (try clear hb); (try clear hb2); (try clear hk); (try clear hi)) | ((with_reducible refine gate_callee (f := 28) rfl ?_); refine goesL_ (some 41) rfl rfl Try.func28 (by kernel_rfl) rfl #[.slice Ao9 y167.length co9, .int .i64 0] rfl (by (try simp only [List.map_toArray, List.map_cons, List.map_nil]); first | done | rfl | (simp only [List.length_drop, List.length_take]; rfl)) ?_; (with_reducible refine (loops_Depth.calls k _ _ y167 0 t190 t191 _ ?side1 ?side2 A5.out).mono ?_); (case side1 => repeat (first | exact (Kd.R_reads' HO169.out).2.2 | (with_reducible refine Kd.C_alloc ?_ _) | (with_reducible refine Kd.C_drewN ?_ _) | (with_reducible refine Kd.C_drew ?_))); (case side2 => exact (Kd.R_reads' HO169.out).2.1); rintro e w21 ⟨rfl, hb⟩; refine ⟨_, rfl, ?_⟩; have n0_ := Aside0.mk (Kd.R_below (by (with_reducible repeat (first | apply Kd.R_alloc | apply Kd.R_drewN | apply Kd.R_drew)); exact HO169.out) hb); have n1_ := Aside0.mk (Kd.R_below (by (with_reducible repeat (first | apply Kd.R_alloc | apply Kd.R_drewN | apply Kd.R_drew)); exact HO173.out) hb); have n2_ := Aside0.mk (Kd.R_below (by (with_reducible repeat (first | apply Kd.R_alloc | apply Kd.R_drewN | apply Kd.R_drew)); exact HO180.out) hb); have n3_ := Aside0.mk (Kd.R_below (by (with_reducible repeat (first | apply Kd.R_alloc | apply Kd.R_drewN | apply Kd.R_drew)); exact HO187.out) hb); have n4_ := Aside0.mk (blk_below (g := gb176) (o := .cells #[.bool t170, .slice Ao13 t171.length co13, .string t174] 55 (0, 0)) (by (with_reducible repeat (first | refine blk_drewN ?_ _ | refine blk_drew ?_ | refine blk_alloc ?_ _)); exact BK176.out) hb); have n5_ := Aside0.mk (blk_below (g := gb183) (o := .cells #[.bool t177, .slice Ao18 t178.length co18, .string t181] 55 (0, 0)) (by (with_reducible repeat (first | refine blk_drewN ?_ _ | refine blk_drew ?_ | refine blk_alloc ?_ _)); exact BK183.out) hb); have n6_ := Aside0.mk (below_step (by repeat (first | (with_reducible first | exact HB.out | apply below_alloc | apply pw_below_drewN | apply below_drew1 | refine below_set ?_ GE176.out | refine below_set ?_ GE183.out) | exact HB.out)) hb); clear HO169; clear HO173; clear HO180; clear HO187; clear BK176; clear BK183; clear HB; have HO169 := n0_; have HO173 := n1_; have HO180 := n2_; have HO187 := n3_; have BK176 := n4_; have BK183 := n5_; have HB := n6_; clear n0_ n1_ n2_ n3_ n4_ n5_ n6_; (try clear hb); (try clear hb2); (try clear hk); (try clear hi)))
 (try simp only [Act.put, List.setIfInBounds_toArray, List.set_cons_zero, List.set_cons_succ])
 go_cut [87] (fun v87 wc => ∃ (kq : Nat) (x87_5 : Bool), v87 = .bool x87_5 ∧ Aside0 (tickinglaw06_awake.j0 kq x87_5 = some r) ∧ Aside0 (kq ≤ k) ∧ Aside0 (Kd.R k23 23 wc w.heap.size (fun k_ => some k_ ≠ ((.slice Ao18 t178.length co18) : Value).ownBlock) (.slice Ao13 t171.length co13) t171) ∧ Aside0 (Kd.R k23 23 wc w.heap.size (fun k_ => some k_ ≠ ((.slice Ao13 t171.length co13) : Value).ownBlock) (.slice Ao18 t178.length co18) t178) ∧ Aside0 (wc.heap[gb176]? = some (.cells #[.bool t170, (.slice Ao13 t171.length co13), .string t174] 55 (0, 0))) ∧ Aside0 (wc.heap[gb183]? = some (.cells #[.bool t177, (.slice Ao18 t178.length co18), .string t181] 55 (0, 0))) ∧ Aside0 (Below w.heap.size w wc))
 case first =>
  have H := HC6.out
  clear HC6
  by_cases c22 : t175 = 0
  rotate_left
  ·rw [if_neg c22] at H
   have c22b0 : (t175 == 0) = false := beq_eq_false_iff_ne.mpr c22
   have c22b1 : (t175 != 0) = true := bne_iff_ne.mpr c22
   (first | rw [c22b0] | (simp only [i64_w, i32_w]; rw [c22b0]) | skip)
   have H' := Aside0.mk H
   clear H
   go_wp2
   go_meet
   exact ⟨_, (true), (by first | rfl | (simp; done) | (simp [*]; done)), H', ⟨by first | omega | exact Nat.le_refl _⟩, ⟨by (with_reducible repeat (first | apply Kd.R_alloc | apply Kd.R_drewN | apply Kd.R_drew)); exact Kd.R_mono HO173.out (fun _ hk => hk.2)⟩, ⟨by (with_reducible repeat (first | apply Kd.R_alloc | apply Kd.R_drewN | apply Kd.R_drew)); exact Kd.R_mono HO180.out (fun _ hk => hk.2)⟩, ⟨by (with_reducible repeat (first | refine blk_drewN ?_ _ | refine blk_drew ?_ | refine blk_alloc ?_ _)); exact BK176.out⟩, ⟨by (with_reducible repeat (first | refine blk_drewN ?_ _ | refine blk_drew ?_ | refine blk_alloc ?_ _)); exact BK183.out⟩, ⟨by repeat (first | (with_reducible first | exact HB.out | apply below_alloc | apply pw_below_drewN | apply below_drew1 | refine below_set ?_ GE176.out | refine below_set ?_ GE183.out) | exact HB.out)⟩⟩
  rw [if_pos c22] at H
  have c22b0 : (t175 == 0) = true := beq_iff_eq.mpr c22
  have c22b1 : (t175 != 0) = false := bne_eq_false_iff_eq.mpr c22
  clear c22
  (first | rw [c22b0] | (simp only [i64_w, i32_w]; rw [c22b0]) | skip)
  by_cases c23 : t170 = true
  ·subst c23
   have H1 : (tickinglaw06_awake.j0 k true) = some r := by rw [if_pos rfl] at H; exact H
   clear H
   have H := H1
   clear H1
   have H' := Aside0.mk H
   clear H
   have hnb24 := NB176_183.out
   have hnc24 := NB183_176.out
   have hcz25_0 : w21.cell? ⟨gb176, 0, none⟩ = some (.bool true) := (blk_cell BK176.out 0).trans rfl
   have hcz25_1 : w21.cell? ⟨gb176, 1, none⟩ = some (.slice Ao13 t171.length co13) := (blk_cell BK176.out 1).trans rfl
   have hcz25_2 : w21.cell? ⟨gb176, 2, none⟩ = some (.string t174) := (blk_cell BK176.out 2).trans rfl
   have hfz25_0 := blk_frozen BK176.out 0
   have hfz25_1 := blk_frozen BK176.out 1
   have hfz25_2 := blk_frozen BK176.out 2
   go_wp2
   go_meet
   exact ⟨_, (true), (by first | rfl | (simp; done) | (simp [*]; done)), H', ⟨by first | omega | exact Nat.le_refl _⟩, ⟨by (with_reducible repeat (first | apply Kd.R_alloc | apply Kd.R_drewN | apply Kd.R_drew)); exact Kd.R_mono HO173.out (fun _ hk => hk.2)⟩, ⟨by (with_reducible repeat (first | apply Kd.R_alloc | apply Kd.R_drewN | apply Kd.R_drew)); exact Kd.R_mono HO180.out (fun _ hk => hk.2)⟩, ⟨by (with_reducible repeat (first | refine blk_drewN ?_ _ | refine blk_drew ?_ | refine blk_alloc ?_ _)); exact BK176.out⟩, ⟨by (with_reducible repeat (first | refine blk_drewN ?_ _ | refine blk_drew ?_ | refine blk_alloc ?_ _)); exact BK183.out⟩, ⟨by repeat (first | (with_reducible first | exact HB.out | apply below_alloc | apply pw_below_drewN | apply below_drew1 | refine below_set ?_ GE176.out | refine below_set ?_ GE183.out) | exact HB.out)⟩⟩
  replace c23 := Bool.eq_false_iff.mpr c23
  subst c23
  have H1 : (if t174.toList = ([] : List UInt8) then (if t182 = 0 then (if t177 = true then (if t185 = 0 then ((tickinglaw06_types.f k t184 (([(⟨4, 1, 0⟩ : S39), (⟨2, 0, 0⟩ : S39)] : List (S39)))).bind fun t195 => (if t195 = true then (if t189 = 0 then (if t188 = 1 then (tickinglaw06_awake.j0 k (t191 != 6)) else (tickinglaw06_awake.j0 k true)) else (tickinglaw06_awake.j0 k true)) else (tickinglaw06_awake.j0 k true))) else (tickinglaw06_awake.j0 k true)) else (tickinglaw06_awake.j0 k true)) else (tickinglaw06_awake.j0 k true)) else (tickinglaw06_awake.j0 k true)) = some r := by rw [if_neg (show ¬ (false = true) by decide)] at H; exact H
  clear H
  have H := H1
  clear H1
  by_cases c26 : t174.toList = ([] : List UInt8)
  rotate_left
  ·rw [if_neg c26] at H
   have c26b0 : (t174.toList == ([] : List UInt8)) = false := beq_eq_false_iff_ne.mpr c26
   have c26b1 : (t174.toList != ([] : List UInt8)) = true := bne_iff_ne.mpr c26
   have H' := Aside0.mk H
   clear H
   have hnb70 := NB176_183.out
   have hnc70 := NB183_176.out
   have hcz71_0 : w21.cell? ⟨gb176, 0, none⟩ = some (.bool false) := (blk_cell BK176.out 0).trans rfl
   have hcz71_1 : w21.cell? ⟨gb176, 1, none⟩ = some (.slice Ao13 t171.length co13) := (blk_cell BK176.out 1).trans rfl
   have hcz71_2 : w21.cell? ⟨gb176, 2, none⟩ = some (.string t174) := (blk_cell BK176.out 2).trans rfl
   have hfz71_0 := blk_frozen BK176.out 0
   have hfz71_1 := blk_frozen BK176.out 1
   have hfz71_2 := blk_frozen BK176.out 2
   go_wp2
   go_meet
   exact ⟨_, (true), (by first | rfl | (simp; done) | (simp [*]; done)), H', ⟨by first | omega | exact Nat.le_refl _⟩, ⟨by (with_reducible repeat (first | apply Kd.R_alloc | apply Kd.R_drewN | apply Kd.R_drew)); exact Kd.R_mono HO173.out (fun _ hk => hk.2)⟩, ⟨by (with_reducible repeat (first | apply Kd.R_alloc | apply Kd.R_drewN | apply Kd.R_drew)); exact Kd.R_mono HO180.out (fun _ hk => hk.2)⟩, ⟨by (with_reducible repeat (first | refine blk_drewN ?_ _ | refine blk_drew ?_ | refine blk_alloc ?_ _)); exact BK176.out⟩, ⟨by (with_reducible repeat (first | refine blk_drewN ?_ _ | refine blk_drew ?_ | refine blk_alloc ?_ _)); exact BK183.out⟩, ⟨by repeat (first | (with_reducible first | exact HB.out | apply below_alloc | apply pw_below_drewN | apply below_drew1 | refine below_set ?_ GE176.out | refine below_set ?_ GE183.out) | exact HB.out)⟩⟩
  rw [if_pos c26] at H
  have c26b0 : (t174.toList == ([] : List UInt8)) = true := beq_iff_eq.mpr c26
  have c26b1 : (t174.toList != ([] : List UInt8)) = false := bne_eq_false_iff_eq.mpr c26
  clear c26
  by_cases c27 : t182 = 0
  rotate_left
  ·rw [if_neg c27] at H
   have c27b0 : (t182 == 0) = false := beq_eq_false_iff_ne.mpr c27
   have c27b1 : (t182 != 0) = true := bne_iff_ne.mpr c27
   have H' := Aside0.mk H
   clear H
   have hnb68 := NB176_183.out
   have hnc68 := NB183_176.out
   have hcz69_0 : w21.cell? ⟨gb176, 0, none⟩ = some (.bool false) := (blk_cell BK176.out 0).trans rfl
   have hcz69_1 : w21.cell? ⟨gb176, 1, none⟩ = some (.slice Ao13 t171.length co13) := (blk_cell BK176.out 1).trans rfl
   have hcz69_2 : w21.cell? ⟨gb176, 2, none⟩ = some (.string t174) := (blk_cell BK176.out 2).trans rfl
   have hfz69_0 := blk_frozen BK176.out 0
   have hfz69_1 := blk_frozen BK176.out 1
   have hfz69_2 := blk_frozen BK176.out 2
   go_wp2
   go_meet
   exact ⟨_, (true), (by first | rfl | (simp; done) | (simp [*]; done)), H', ⟨by first | omega | exact Nat.le_refl _⟩, ⟨by (with_reducible repeat (first | apply Kd.R_alloc | apply Kd.R_drewN | apply Kd.R_drew)); exact Kd.R_mono HO173.out (fun _ hk => hk.2)⟩, ⟨by (with_reducible repeat (first | apply Kd.R_alloc | apply Kd.R_drewN | apply Kd.R_drew)); exact Kd.R_mono HO180.out (fun _ hk => hk.2)⟩, ⟨by (with_reducible repeat (first | refine blk_drewN ?_ _ | refine blk_drew ?_ | refine blk_alloc ?_ _)); exact BK176.out⟩, ⟨by (with_reducible repeat (first | refine blk_drewN ?_ _ | refine blk_drew ?_ | refine blk_alloc ?_ _)); exact BK183.out⟩, ⟨by repeat (first | (with_reducible first | exact HB.out | apply below_alloc | apply pw_below_drewN | apply below_drew1 | refine below_set ?_ GE176.out | refine below_set ?_ GE183.out) | exact HB.out)⟩⟩
  rw [if_pos c27] at H
  have c27b0 : (t182 == 0) = true := beq_iff_eq.mpr c27
  have c27b1 : (t182 != 0) = false := bne_eq_false_iff_eq.mpr c27
  clear c27
  by_cases c28 : t177 = true
  rotate_left
  ·replace c28 := Bool.eq_false_iff.mpr c28
   subst c28
   have H1 : (tickinglaw06_awake.j0 k true) = some r := by rw [if_neg (show ¬ (false = true) by decide)] at H; exact H
   clear H
   have H := H1
   clear H1
   have H' := Aside0.mk H
   clear H
   have hnb65 := NB176_183.out
   have hnc65 := NB183_176.out
   have hcz66_0 : w21.cell? ⟨gb176, 0, none⟩ = some (.bool false) := (blk_cell BK176.out 0).trans rfl
   have hcz66_1 : w21.cell? ⟨gb176, 1, none⟩ = some (.slice Ao13 t171.length co13) := (blk_cell BK176.out 1).trans rfl
   have hcz66_2 : w21.cell? ⟨gb176, 2, none⟩ = some (.string t174) := (blk_cell BK176.out 2).trans rfl
   have hfz66_0 := blk_frozen BK176.out 0
   have hfz66_1 := blk_frozen BK176.out 1
   have hfz66_2 := blk_frozen BK176.out 2
   have hcz67_0 : w21.cell? ⟨gb183, 0, none⟩ = some (.bool false) := (blk_cell BK183.out 0).trans rfl
   have hcz67_1 : w21.cell? ⟨gb183, 1, none⟩ = some (.slice Ao18 t178.length co18) := (blk_cell BK183.out 1).trans rfl
   have hcz67_2 : w21.cell? ⟨gb183, 2, none⟩ = some (.string t181) := (blk_cell BK183.out 2).trans rfl
   have hfz67_0 := blk_frozen BK183.out 0
   have hfz67_1 := blk_frozen BK183.out 1
   have hfz67_2 := blk_frozen BK183.out 2
   go_wp2
   go_meet
   exact ⟨_, (true), (by first | rfl | (simp; done) | (simp [*]; done)), H', ⟨by first | omega | exact Nat.le_refl _⟩, ⟨by (with_reducible repeat (first | apply Kd.R_alloc | apply Kd.R_drewN | apply Kd.R_drew)); exact Kd.R_mono HO173.out (fun _ hk => hk.2)⟩, ⟨by (with_reducible repeat (first | apply Kd.R_alloc | apply Kd.R_drewN | apply Kd.R_drew)); exact Kd.R_mono HO180.out (fun _ hk => hk.2)⟩, ⟨by (with_reducible repeat (first | refine blk_drewN ?_ _ | refine blk_drew ?_ | refine blk_alloc ?_ _)); exact BK176.out⟩, ⟨by (with_reducible repeat (first | refine blk_drewN ?_ _ | refine blk_drew ?_ | refine blk_alloc ?_ _)); exact BK183.out⟩, ⟨by repeat (first | (with_reducible first | exact HB.out | apply below_alloc | apply pw_below_drewN | apply below_drew1 | refine below_set ?_ GE176.out | refine below_set ?_ GE183.out) | exact HB.out)⟩⟩
  subst c28
  have H1 : (if t185 = 0 then ((tickinglaw06_types.f k t184 (([(⟨4, 1, 0⟩ : S39), (⟨2, 0, 0⟩ : S39)] : List (S39)))).bind fun t195 => (if t195 = true then (if t189 = 0 then (if t188 = 1 then (tickinglaw06_awake.j0 k (t191 != 6)) else (tickinglaw06_awake.j0 k true)) else (tickinglaw06_awake.j0 k true)) else (tickinglaw06_awake.j0 k true))) else (tickinglaw06_awake.j0 k true)) = some r := by rw [if_pos rfl] at H; exact H
  clear H
  have H := H1
  clear H1
  by_cases c29 : t185 = 0
  rotate_left
  ·rw [if_neg c29] at H
   have c29b0 : (t185 == 0) = false := beq_eq_false_iff_ne.mpr c29
   have c29b1 : (t185 != 0) = true := bne_iff_ne.mpr c29
   have H' := Aside0.mk H
   clear H
   have hnb62 := NB176_183.out
   have hnc62 := NB183_176.out
   have hcz63_0 : w21.cell? ⟨gb176, 0, none⟩ = some (.bool false) := (blk_cell BK176.out 0).trans rfl
   have hcz63_1 : w21.cell? ⟨gb176, 1, none⟩ = some (.slice Ao13 t171.length co13) := (blk_cell BK176.out 1).trans rfl
   have hcz63_2 : w21.cell? ⟨gb176, 2, none⟩ = some (.string t174) := (blk_cell BK176.out 2).trans rfl
   have hfz63_0 := blk_frozen BK176.out 0
   have hfz63_1 := blk_frozen BK176.out 1
   have hfz63_2 := blk_frozen BK176.out 2
   have hcz64_0 : w21.cell? ⟨gb183, 0, none⟩ = some (.bool true) := (blk_cell BK183.out 0).trans rfl
   have hcz64_1 : w21.cell? ⟨gb183, 1, none⟩ = some (.slice Ao18 t178.length co18) := (blk_cell BK183.out 1).trans rfl
   have hcz64_2 : w21.cell? ⟨gb183, 2, none⟩ = some (.string t181) := (blk_cell BK183.out 2).trans rfl
   have hfz64_0 := blk_frozen BK183.out 0
   have hfz64_1 := blk_frozen BK183.out 1
   have hfz64_2 := blk_frozen BK183.out 2
   go_wp2
   go_meet
   exact ⟨_, (true), (by first | rfl | (simp; done) | (simp [*]; done)), H', ⟨by first | omega | exact Nat.le_refl _⟩, ⟨by (with_reducible repeat (first | apply Kd.R_alloc | apply Kd.R_drewN | apply Kd.R_drew)); exact Kd.R_mono HO173.out (fun _ hk => hk.2)⟩, ⟨by (with_reducible repeat (first | apply Kd.R_alloc | apply Kd.R_drewN | apply Kd.R_drew)); exact Kd.R_mono HO180.out (fun _ hk => hk.2)⟩, ⟨by (with_reducible repeat (first | refine blk_drewN ?_ _ | refine blk_drew ?_ | refine blk_alloc ?_ _)); exact BK176.out⟩, ⟨by (with_reducible repeat (first | refine blk_drewN ?_ _ | refine blk_drew ?_ | refine blk_alloc ?_ _)); exact BK183.out⟩, ⟨by repeat (first | (with_reducible first | exact HB.out | apply below_alloc | apply pw_below_drewN | apply below_drew1 | refine below_set ?_ GE176.out | refine below_set ?_ GE183.out) | exact HB.out)⟩⟩
  rw [if_pos c29] at H
  have c29b0 : (t185 == 0) = true := beq_iff_eq.mpr c29
  have c29b1 : (t185 != 0) = false := bne_eq_false_iff_eq.mpr c29
  clear c29
  obtain ⟨y192, hy192⟩ : ∃ y_ : List (S39), y_ = (([(⟨4, 1, 0⟩ : S39), (⟨2, 0, 0⟩ : S39)] : List (S39))) := ⟨_, rfl⟩
  replace H : ((tickinglaw06_types.f k t184 y192).bind fun t195 => (if t195 = true then (if t189 = 0 then (if t188 = 1 then (tickinglaw06_awake.j0 k (t191 != 6)) else (tickinglaw06_awake.j0 k true)) else (tickinglaw06_awake.j0 k true)) else (tickinglaw06_awake.j0 k true))) = some r := by first | (rw [hy192]; with_reducible exact H) | (have H2_ := (Option.bind_some _ _).symm.trans H; rw [hy192]; with_reducible exact H2_) | (have H2_ := (Option.bind_some _ _).symm.trans H; with_reducible exact H2_) | with_reducible exact H | (rw [hy192]; exact H) | exact H
  have Ny192 := Aside0.mk hy192
  clear hy192
  replace H := Option.bind_eq_some_iff.mp H
  obtain ⟨t195, A300, H⟩ := H
  replace H : (if t195 = true then (if t189 = 0 then (if t188 = 1 then (tickinglaw06_awake.j0 k (t191 != 6)) else (tickinglaw06_awake.j0 k true)) else (tickinglaw06_awake.j0 k true)) else (tickinglaw06_awake.j0 k true)) = some r := H
  have A30 := Aside0.mk A300
  clear A300
  by_cases c31 : t195 = true
  rotate_left
  ·replace c31 := Bool.eq_false_iff.mpr c31
   subst c31
   have H1 : (tickinglaw06_awake.j0 k true) = some r := by rw [if_neg (show ¬ (false = true) by decide)] at H; exact H
   clear H
   have H := H1
   clear H1
   have H' := Aside0.mk H
   clear H
   have hnb55 := NB176_183.out
   have hnc55 := NB183_176.out
   have hcz56_0 : w21.cell? ⟨gb176, 0, none⟩ = some (.bool false) := (blk_cell BK176.out 0).trans rfl
   have hcz56_1 : w21.cell? ⟨gb176, 1, none⟩ = some (.slice Ao13 t171.length co13) := (blk_cell BK176.out 1).trans rfl
   have hcz56_2 : w21.cell? ⟨gb176, 2, none⟩ = some (.string t174) := (blk_cell BK176.out 2).trans rfl
   have hfz56_0 := blk_frozen BK176.out 0
   have hfz56_1 := blk_frozen BK176.out 1
   have hfz56_2 := blk_frozen BK176.out 2
   have hcz57_0 : w21.cell? ⟨gb183, 0, none⟩ = some (.bool true) := (blk_cell BK183.out 0).trans rfl
   have hcz57_1 : w21.cell? ⟨gb183, 1, none⟩ = some (.slice Ao18 t178.length co18) := (blk_cell BK183.out 1).trans rfl
   have hcz57_2 : w21.cell? ⟨gb183, 2, none⟩ = some (.string t181) := (blk_cell BK183.out 2).trans rfl
   have hfz57_0 := blk_frozen BK183.out 0
   have hfz57_1 := blk_frozen BK183.out 1
   have hfz57_2 := blk_frozen BK183.out 2
   go_wp2_with (first | ((with_reducible refine gate_dst (N := 72) rfl ?_); (try (refine gate_guard (by rfl) ?_; dsimp only)); refine Kd.R_lit k39 _ 39 ?hg (N := 72) ?hd (xs := ([(⟨4, 1, 0⟩ : S39), (⟨2, 0, 0⟩ : S39)] : List (S39))) (inner := [.int .i64 4, .int .i64 1, .int .i64 0, .int .i64 2, .int .i64 0, .int .i64 0]) (ok := fun _ => True) (okp := fun _ => True) ?hr ?hp (fun _ hk => hk) trivial (Below.refl _ _) (Nat.le_refl _) (by simp) ?_; (case hd => rfl); (case hg => rfl); (case hr => first | (go_simp; done) | (go_simp; rfl)); (case hp => exact (Reps.c3 (show Kd.M k39 _ _ _ (⟨4, 1, 0⟩ : S39) [.int .i64 4, .int .i64 1, .int .i64 0] from (k39_mkM _ _ _ (⟨4, 1, 0⟩ : S39) )) (Reps.c3 (show Kd.M k39 _ _ _ (⟨2, 0, 0⟩ : S39) [.int .i64 2, .int .i64 0, .int .i64 0] from (k39_mkM _ _ _ (⟨2, 0, 0⟩ : S39) )) (Reps.none _ _)))); intro v193 w58 ho59 hb hg_ hnew_; clear hg_ hnew_; (first | rw [← Ny192.out] at ho59 | (simp only [Int.reduceToNat] at ho59; rw [← Ny192.out] at ho59)); have n0_ := Aside0.mk (Kd.R_elder' (by (with_reducible repeat (first | apply Kd.R_alloc | apply Kd.R_drewN | apply Kd.R_drew)); exact HO169.out) (Kd.R_base ho59) hb); have n1_ := Aside0.mk (Kd.R_below (by (with_reducible repeat (first | apply Kd.R_alloc | apply Kd.R_drewN | apply Kd.R_drew)); exact HO173.out) hb); have n2_ := Aside0.mk (Kd.R_below (by (with_reducible repeat (first | apply Kd.R_alloc | apply Kd.R_drewN | apply Kd.R_drew)); exact HO180.out) hb); have n3_ := Aside0.mk (Kd.R_elder' (by (with_reducible repeat (first | apply Kd.R_alloc | apply Kd.R_drewN | apply Kd.R_drew)); exact HO187.out) (Kd.R_base ho59) hb); have n4_ := Aside0.mk (Kd.R_lower (Kd.R_new' (Kd.R_new' ho59 (Kd.R_lt (by (with_reducible repeat (first | apply Kd.R_alloc | apply Kd.R_drewN | apply Kd.R_drew)); exact HO169.out))) (Kd.R_lt (by (with_reducible repeat (first | apply Kd.R_alloc | apply Kd.R_drewN | apply Kd.R_drew)); exact HO187.out))) (below_size (by repeat (first | (with_reducible first | exact HB.out | apply below_alloc | apply pw_below_drewN | apply below_drew1 | refine below_set ?_ GE176.out | refine below_set ?_ GE183.out) | exact HB.out)))); have n5_ := Aside0.mk (blk_below (g := gb176) (o := .cells #[.bool false, .slice Ao13 t171.length co13, .string t174] 55 (0, 0)) (by (with_reducible repeat (first | refine blk_drewN ?_ _ | refine blk_drew ?_ | refine blk_alloc ?_ _)); exact BK176.out) hb); have n6_ := Aside0.mk (blk_below (g := gb183) (o := .cells #[.bool true, .slice Ao18 t178.length co18, .string t181] 55 (0, 0)) (by (with_reducible repeat (first | refine blk_drewN ?_ _ | refine blk_drew ?_ | refine blk_alloc ?_ _)); exact BK183.out) hb); have n7_ := Aside0.mk (below_step (by repeat (first | (with_reducible first | exact HB.out | apply below_alloc | apply pw_below_drewN | apply below_drew1 | refine below_set ?_ GE176.out | refine below_set ?_ GE183.out) | exact HB.out)) hb); clear HO169; clear HO173; clear HO180; clear HO187; clear BK176; clear BK183; clear HB; have HO169 := n0_; have HO173 := n1_; have HO180 := n2_; have HO187 := n3_; have HO194 := n4_; have BK176 := n5_; have BK183 := n6_; have HB := n7_; clear n0_ n1_ n2_ n3_ n4_ n5_ n6_ n7_; clear hb ho59; obtain ⟨Ao60, co60, eo60⟩ := Kd.R_slice HO187.out; subst eo60; obtain ⟨Ao61, co61, eo61⟩ := Kd.R_slice HO194.out; subst eo61) | (go_at_call 20; (with_reducible refine (tickinglaw06_types.calls k _ _ t184 _ _ y192 false _ ?side1 ?side2 ?side3 ?side4 A30.out).mono ?_); (case side1 => repeat (first | exact (Kd.R_reads' HO187.out).2.2 | (with_reducible refine Kd.C_alloc ?_ _) | (with_reducible refine Kd.C_drewN ?_ _) | (with_reducible refine Kd.C_drew ?_))); (case side2 => exact (Kd.R_reads' HO187.out).2.1); (case side3 => repeat (first | exact (Kd.R_reads' HO194.out).2.2 | (with_reducible refine Kd.C_alloc ?_ _) | (with_reducible refine Kd.C_drewN ?_ _) | (with_reducible refine Kd.C_drew ?_))); (case side4 => exact (Kd.R_reads' HO194.out).2.1); rintro e w' ⟨rfl, ⟨nd, rfl⟩⟩))
   go_meet
   exact ⟨_, (true), (by first | rfl | (simp; done) | (simp [*]; done)), H', ⟨by first | omega | exact Nat.le_refl _⟩, ⟨by (with_reducible repeat (first | apply Kd.R_alloc | apply Kd.R_drewN | apply Kd.R_drew)); exact Kd.R_mono HO173.out (fun _ hk => hk.2)⟩, ⟨by (with_reducible repeat (first | apply Kd.R_alloc | apply Kd.R_drewN | apply Kd.R_drew)); exact Kd.R_mono HO180.out (fun _ hk => hk.2)⟩, ⟨by (with_reducible repeat (first | refine blk_drewN ?_ _ | refine blk_drew ?_ | refine blk_alloc ?_ _)); exact BK176.out⟩, ⟨by (with_reducible repeat (first | refine blk_drewN ?_ _ | refine blk_drew ?_ | refine blk_alloc ?_ _)); exact BK183.out⟩, ⟨by repeat (first | (with_reducible first | exact HB.out | apply below_alloc | apply pw_below_drewN | apply below_drew1 | refine below_set ?_ GE176.out | refine below_set ?_ GE183.out) | exact HB.out)⟩⟩
  subst c31
  have H1 : (if t189 = 0 then (if t188 = 1 then (tickinglaw06_awake.j0 k (t191 != 6)) else (tickinglaw06_awake.j0 k true)) else (tickinglaw06_awake.j0 k true)) = some r := by rw [if_pos rfl] at H; exact H
  clear H
  have H := H1
  clear H1
  by_cases c32 : t189 = 0
  rotate_left
  ·rw [if_neg c32] at H
   have c32b0 : (t189 == 0) = false := beq_eq_false_iff_ne.mpr c32
   have c32b1 : (t189 != 0) = true := bne_iff_ne.mpr c32
   have H' := Aside0.mk H
   clear H
   have hnb48 := NB176_183.out
   have hnc48 := NB183_176.out
   have hcz49_0 : w21.cell? ⟨gb176, 0, none⟩ = some (.bool false) := (blk_cell BK176.out 0).trans rfl
   have hcz49_1 : w21.cell? ⟨gb176, 1, none⟩ = some (.slice Ao13 t171.length co13) := (blk_cell BK176.out 1).trans rfl
   have hcz49_2 : w21.cell? ⟨gb176, 2, none⟩ = some (.string t174) := (blk_cell BK176.out 2).trans rfl
   have hfz49_0 := blk_frozen BK176.out 0
   have hfz49_1 := blk_frozen BK176.out 1
   have hfz49_2 := blk_frozen BK176.out 2
   have hcz50_0 : w21.cell? ⟨gb183, 0, none⟩ = some (.bool true) := (blk_cell BK183.out 0).trans rfl
   have hcz50_1 : w21.cell? ⟨gb183, 1, none⟩ = some (.slice Ao18 t178.length co18) := (blk_cell BK183.out 1).trans rfl
   have hcz50_2 : w21.cell? ⟨gb183, 2, none⟩ = some (.string t181) := (blk_cell BK183.out 2).trans rfl
   have hfz50_0 := blk_frozen BK183.out 0
   have hfz50_1 := blk_frozen BK183.out 1
   have hfz50_2 := blk_frozen BK183.out 2
   go_wp2_with (first | ((with_reducible refine gate_dst (N := 72) rfl ?_); (try (refine gate_guard (by rfl) ?_; dsimp only)); refine Kd.R_lit k39 _ 39 ?hg (N := 72) ?hd (xs := ([(⟨4, 1, 0⟩ : S39), (⟨2, 0, 0⟩ : S39)] : List (S39))) (inner := [.int .i64 4, .int .i64 1, .int .i64 0, .int .i64 2, .int .i64 0, .int .i64 0]) (ok := fun _ => True) (okp := fun _ => True) ?hr ?hp (fun _ hk => hk) trivial (Below.refl _ _) (Nat.le_refl _) (by simp) ?_; (case hd => rfl); (case hg => rfl); (case hr => first | (go_simp; done) | (go_simp; rfl)); (case hp => exact (Reps.c3 (show Kd.M k39 _ _ _ (⟨4, 1, 0⟩ : S39) [.int .i64 4, .int .i64 1, .int .i64 0] from (k39_mkM _ _ _ (⟨4, 1, 0⟩ : S39) )) (Reps.c3 (show Kd.M k39 _ _ _ (⟨2, 0, 0⟩ : S39) [.int .i64 2, .int .i64 0, .int .i64 0] from (k39_mkM _ _ _ (⟨2, 0, 0⟩ : S39) )) (Reps.none _ _)))); intro v193 w51 ho52 hb hg_ hnew_; clear hg_ hnew_; (first | rw [← Ny192.out] at ho52 | (simp only [Int.reduceToNat] at ho52; rw [← Ny192.out] at ho52)); have n0_ := Aside0.mk (Kd.R_elder' (by (with_reducible repeat (first | apply Kd.R_alloc | apply Kd.R_drewN | apply Kd.R_drew)); exact HO169.out) (Kd.R_base ho52) hb); have n1_ := Aside0.mk (Kd.R_below (by (with_reducible repeat (first | apply Kd.R_alloc | apply Kd.R_drewN | apply Kd.R_drew)); exact HO173.out) hb); have n2_ := Aside0.mk (Kd.R_below (by (with_reducible repeat (first | apply Kd.R_alloc | apply Kd.R_drewN | apply Kd.R_drew)); exact HO180.out) hb); have n3_ := Aside0.mk (Kd.R_elder' (by (with_reducible repeat (first | apply Kd.R_alloc | apply Kd.R_drewN | apply Kd.R_drew)); exact HO187.out) (Kd.R_base ho52) hb); have n4_ := Aside0.mk (Kd.R_lower (Kd.R_new' (Kd.R_new' ho52 (Kd.R_lt (by (with_reducible repeat (first | apply Kd.R_alloc | apply Kd.R_drewN | apply Kd.R_drew)); exact HO169.out))) (Kd.R_lt (by (with_reducible repeat (first | apply Kd.R_alloc | apply Kd.R_drewN | apply Kd.R_drew)); exact HO187.out))) (below_size (by repeat (first | (with_reducible first | exact HB.out | apply below_alloc | apply pw_below_drewN | apply below_drew1 | refine below_set ?_ GE176.out | refine below_set ?_ GE183.out) | exact HB.out)))); have n5_ := Aside0.mk (blk_below (g := gb176) (o := .cells #[.bool false, .slice Ao13 t171.length co13, .string t174] 55 (0, 0)) (by (with_reducible repeat (first | refine blk_drewN ?_ _ | refine blk_drew ?_ | refine blk_alloc ?_ _)); exact BK176.out) hb); have n6_ := Aside0.mk (blk_below (g := gb183) (o := .cells #[.bool true, .slice Ao18 t178.length co18, .string t181] 55 (0, 0)) (by (with_reducible repeat (first | refine blk_drewN ?_ _ | refine blk_drew ?_ | refine blk_alloc ?_ _)); exact BK183.out) hb); have n7_ := Aside0.mk (below_step (by repeat (first | (with_reducible first | exact HB.out | apply below_alloc | apply pw_below_drewN | apply below_drew1 | refine below_set ?_ GE176.out | refine below_set ?_ GE183.out) | exact HB.out)) hb); clear HO169; clear HO173; clear HO180; clear HO187; clear BK176; clear BK183; clear HB; have HO169 := n0_; have HO173 := n1_; have HO180 := n2_; have HO187 := n3_; have HO194 := n4_; have BK176 := n5_; have BK183 := n6_; have HB := n7_; clear n0_ n1_ n2_ n3_ n4_ n5_ n6_ n7_; clear hb ho52; obtain ⟨Ao53, co53, eo53⟩ := Kd.R_slice HO187.out; subst eo53; obtain ⟨Ao54, co54, eo54⟩ := Kd.R_slice HO194.out; subst eo54) | (go_at_call 20; (with_reducible refine (tickinglaw06_types.calls k _ _ t184 _ _ y192 true _ ?side1 ?side2 ?side3 ?side4 A30.out).mono ?_); (case side1 => repeat (first | exact (Kd.R_reads' HO187.out).2.2 | (with_reducible refine Kd.C_alloc ?_ _) | (with_reducible refine Kd.C_drewN ?_ _) | (with_reducible refine Kd.C_drew ?_))); (case side2 => exact (Kd.R_reads' HO187.out).2.1); (case side3 => repeat (first | exact (Kd.R_reads' HO194.out).2.2 | (with_reducible refine Kd.C_alloc ?_ _) | (with_reducible refine Kd.C_drewN ?_ _) | (with_reducible refine Kd.C_drew ?_))); (case side4 => exact (Kd.R_reads' HO194.out).2.1); rintro e w' ⟨rfl, ⟨nd, rfl⟩⟩))
   go_meet
   exact ⟨_, (true), (by first | rfl | (simp; done) | (simp [*]; done)), H', ⟨by first | omega | exact Nat.le_refl _⟩, ⟨by (with_reducible repeat (first | apply Kd.R_alloc | apply Kd.R_drewN | apply Kd.R_drew)); exact Kd.R_mono HO173.out (fun _ hk => hk.2)⟩, ⟨by (with_reducible repeat (first | apply Kd.R_alloc | apply Kd.R_drewN | apply Kd.R_drew)); exact Kd.R_mono HO180.out (fun _ hk => hk.2)⟩, ⟨by (with_reducible repeat (first | refine blk_drewN ?_ _ | refine blk_drew ?_ | refine blk_alloc ?_ _)); exact BK176.out⟩, ⟨by (with_reducible repeat (first | refine blk_drewN ?_ _ | refine blk_drew ?_ | refine blk_alloc ?_ _)); exact BK183.out⟩, ⟨by repeat (first | (with_reducible first | exact HB.out | apply below_alloc | apply pw_below_drewN | apply below_drew1 | refine below_set ?_ GE176.out | refine below_set ?_ GE183.out) | exact HB.out)⟩⟩
  rw [if_pos c32] at H
  have c32b0 : (t189 == 0) = true := beq_iff_eq.mpr c32
  have c32b1 : (t189 != 0) = false := bne_eq_false_iff_eq.mpr c32
  clear c32
  by_cases c33 : t188 = 1
  rotate_left
  ·rw [if_neg c33] at H
   have c33b0 : (t188 == 1) = false := beq_eq_false_iff_ne.mpr c33
   have c33b1 : (t188 != 1) = true := bne_iff_ne.mpr c33
   have H' := Aside0.mk H
   clear H
   have hnb41 := NB176_183.out
   have hnc41 := NB183_176.out
   have hcz42_0 : w21.cell? ⟨gb176, 0, none⟩ = some (.bool false) := (blk_cell BK176.out 0).trans rfl
   have hcz42_1 : w21.cell? ⟨gb176, 1, none⟩ = some (.slice Ao13 t171.length co13) := (blk_cell BK176.out 1).trans rfl
   have hcz42_2 : w21.cell? ⟨gb176, 2, none⟩ = some (.string t174) := (blk_cell BK176.out 2).trans rfl
   have hfz42_0 := blk_frozen BK176.out 0
   have hfz42_1 := blk_frozen BK176.out 1
   have hfz42_2 := blk_frozen BK176.out 2
   have hcz43_0 : w21.cell? ⟨gb183, 0, none⟩ = some (.bool true) := (blk_cell BK183.out 0).trans rfl
   have hcz43_1 : w21.cell? ⟨gb183, 1, none⟩ = some (.slice Ao18 t178.length co18) := (blk_cell BK183.out 1).trans rfl
   have hcz43_2 : w21.cell? ⟨gb183, 2, none⟩ = some (.string t181) := (blk_cell BK183.out 2).trans rfl
   have hfz43_0 := blk_frozen BK183.out 0
   have hfz43_1 := blk_frozen BK183.out 1
   have hfz43_2 := blk_frozen BK183.out 2
   go_wp2_with (first | ((with_reducible refine gate_dst (N := 72) rfl ?_); (try (refine gate_guard (by rfl) ?_; dsimp only)); refine Kd.R_lit k39 _ 39 ?hg (N := 72) ?hd (xs := ([(⟨4, 1, 0⟩ : S39), (⟨2, 0, 0⟩ : S39)] : List (S39))) (inner := [.int .i64 4, .int .i64 1, .int .i64 0, .int .i64 2, .int .i64 0, .int .i64 0]) (ok := fun _ => True) (okp := fun _ => True) ?hr ?hp (fun _ hk => hk) trivial (Below.refl _ _) (Nat.le_refl _) (by simp) ?_; (case hd => rfl); (case hg => rfl); (case hr => first | (go_simp; done) | (go_simp; rfl)); (case hp => exact (Reps.c3 (show Kd.M k39 _ _ _ (⟨4, 1, 0⟩ : S39) [.int .i64 4, .int .i64 1, .int .i64 0] from (k39_mkM _ _ _ (⟨4, 1, 0⟩ : S39) )) (Reps.c3 (show Kd.M k39 _ _ _ (⟨2, 0, 0⟩ : S39) [.int .i64 2, .int .i64 0, .int .i64 0] from (k39_mkM _ _ _ (⟨2, 0, 0⟩ : S39) )) (Reps.none _ _)))); intro v193 w44 ho45 hb hg_ hnew_; clear hg_ hnew_; (first | rw [← Ny192.out] at ho45 | (simp only [Int.reduceToNat] at ho45; rw [← Ny192.out] at ho45)); have n0_ := Aside0.mk (Kd.R_elder' (by (with_reducible repeat (first | apply Kd.R_alloc | apply Kd.R_drewN | apply Kd.R_drew)); exact HO169.out) (Kd.R_base ho45) hb); have n1_ := Aside0.mk (Kd.R_below (by (with_reducible repeat (first | apply Kd.R_alloc | apply Kd.R_drewN | apply Kd.R_drew)); exact HO173.out) hb); have n2_ := Aside0.mk (Kd.R_below (by (with_reducible repeat (first | apply Kd.R_alloc | apply Kd.R_drewN | apply Kd.R_drew)); exact HO180.out) hb); have n3_ := Aside0.mk (Kd.R_elder' (by (with_reducible repeat (first | apply Kd.R_alloc | apply Kd.R_drewN | apply Kd.R_drew)); exact HO187.out) (Kd.R_base ho45) hb); have n4_ := Aside0.mk (Kd.R_lower (Kd.R_new' (Kd.R_new' ho45 (Kd.R_lt (by (with_reducible repeat (first | apply Kd.R_alloc | apply Kd.R_drewN | apply Kd.R_drew)); exact HO169.out))) (Kd.R_lt (by (with_reducible repeat (first | apply Kd.R_alloc | apply Kd.R_drewN | apply Kd.R_drew)); exact HO187.out))) (below_size (by repeat (first | (with_reducible first | exact HB.out | apply below_alloc | apply pw_below_drewN | apply below_drew1 | refine below_set ?_ GE176.out | refine below_set ?_ GE183.out) | exact HB.out)))); have n5_ := Aside0.mk (blk_below (g := gb176) (o := .cells #[.bool false, .slice Ao13 t171.length co13, .string t174] 55 (0, 0)) (by (with_reducible repeat (first | refine blk_drewN ?_ _ | refine blk_drew ?_ | refine blk_alloc ?_ _)); exact BK176.out) hb); have n6_ := Aside0.mk (blk_below (g := gb183) (o := .cells #[.bool true, .slice Ao18 t178.length co18, .string t181] 55 (0, 0)) (by (with_reducible repeat (first | refine blk_drewN ?_ _ | refine blk_drew ?_ | refine blk_alloc ?_ _)); exact BK183.out) hb); have n7_ := Aside0.mk (below_step (by repeat (first | (with_reducible first | exact HB.out | apply below_alloc | apply pw_below_drewN | apply below_drew1 | refine below_set ?_ GE176.out | refine below_set ?_ GE183.out) | exact HB.out)) hb); clear HO169; clear HO173; clear HO180; clear HO187; clear BK176; clear BK183; clear HB; have HO169 := n0_; have HO173 := n1_; have HO180 := n2_; have HO187 := n3_; have HO194 := n4_; have BK176 := n5_; have BK183 := n6_; have HB := n7_; clear n0_ n1_ n2_ n3_ n4_ n5_ n6_ n7_; clear hb ho45; obtain ⟨Ao46, co46, eo46⟩ := Kd.R_slice HO187.out; subst eo46; obtain ⟨Ao47, co47, eo47⟩ := Kd.R_slice HO194.out; subst eo47) | (go_at_call 20; (with_reducible refine (tickinglaw06_types.calls k _ _ t184 _ _ y192 true _ ?side1 ?side2 ?side3 ?side4 A30.out).mono ?_); (case side1 => repeat (first | exact (Kd.R_reads' HO187.out).2.2 | (with_reducible refine Kd.C_alloc ?_ _) | (with_reducible refine Kd.C_drewN ?_ _) | (with_reducible refine Kd.C_drew ?_))); (case side2 => exact (Kd.R_reads' HO187.out).2.1); (case side3 => repeat (first | exact (Kd.R_reads' HO194.out).2.2 | (with_reducible refine Kd.C_alloc ?_ _) | (with_reducible refine Kd.C_drewN ?_ _) | (with_reducible refine Kd.C_drew ?_))); (case side4 => exact (Kd.R_reads' HO194.out).2.1); rintro e w' ⟨rfl, ⟨nd, rfl⟩⟩))
   go_meet
   exact ⟨_, (true), (by first | rfl | (simp; done) | (simp [*]; done)), H', ⟨by first | omega | exact Nat.le_refl _⟩, ⟨by (with_reducible repeat (first | apply Kd.R_alloc | apply Kd.R_drewN | apply Kd.R_drew)); exact Kd.R_mono HO173.out (fun _ hk => hk.2)⟩, ⟨by (with_reducible repeat (first | apply Kd.R_alloc | apply Kd.R_drewN | apply Kd.R_drew)); exact Kd.R_mono HO180.out (fun _ hk => hk.2)⟩, ⟨by (with_reducible repeat (first | refine blk_drewN ?_ _ | refine blk_drew ?_ | refine blk_alloc ?_ _)); exact BK176.out⟩, ⟨by (with_reducible repeat (first | refine blk_drewN ?_ _ | refine blk_drew ?_ | refine blk_alloc ?_ _)); exact BK183.out⟩, ⟨by repeat (first | (with_reducible first | exact HB.out | apply below_alloc | apply pw_below_drewN | apply below_drew1 | refine below_set ?_ GE176.out | refine below_set ?_ GE183.out) | exact HB.out)⟩⟩
  rw [if_pos c33] at H
  have c33b0 : (t188 == 1) = true := beq_iff_eq.mpr c33
  have c33b1 : (t188 != 1) = false := bne_eq_false_iff_eq.mpr c33
  clear c33
  have H' := Aside0.mk H
  clear H
  have hnb34 := NB176_183.out
  have hnc34 := NB183_176.out
  have hcz35_0 : w21.cell? ⟨gb176, 0, none⟩ = some (.bool false) := (blk_cell BK176.out 0).trans rfl
  have hcz35_1 : w21.cell? ⟨gb176, 1, none⟩ = some (.slice Ao13 t171.length co13) := (blk_cell BK176.out 1).trans rfl
  have hcz35_2 : w21.cell? ⟨gb176, 2, none⟩ = some (.string t174) := (blk_cell BK176.out 2).trans rfl
  have hfz35_0 := blk_frozen BK176.out 0
  have hfz35_1 := blk_frozen BK176.out 1
  have hfz35_2 := blk_frozen BK176.out 2
  have hcz36_0 : w21.cell? ⟨gb183, 0, none⟩ = some (.bool true) := (blk_cell BK183.out 0).trans rfl
  have hcz36_1 : w21.cell? ⟨gb183, 1, none⟩ = some (.slice Ao18 t178.length co18) := (blk_cell BK183.out 1).trans rfl
  have hcz36_2 : w21.cell? ⟨gb183, 2, none⟩ = some (.string t181) := (blk_cell BK183.out 2).trans rfl
  have hfz36_0 := blk_frozen BK183.out 0
  have hfz36_1 := blk_frozen BK183.out 1
  have hfz36_2 := blk_frozen BK183.out 2
  go_wp2_with (first | ((with_reducible refine gate_dst (N := 72) rfl ?_); (try (refine gate_guard (by rfl) ?_; dsimp only)); refine Kd.R_lit k39 _ 39 ?hg (N := 72) ?hd (xs := ([(⟨4, 1, 0⟩ : S39), (⟨2, 0, 0⟩ : S39)] : List (S39))) (inner := [.int .i64 4, .int .i64 1, .int .i64 0, .int .i64 2, .int .i64 0, .int .i64 0]) (ok := fun _ => True) (okp := fun _ => True) ?hr ?hp (fun _ hk => hk) trivial (Below.refl _ _) (Nat.le_refl _) (by simp) ?_; (case hd => rfl); (case hg => rfl); (case hr => first | (go_simp; done) | (go_simp; rfl)); (case hp => exact (Reps.c3 (show Kd.M k39 _ _ _ (⟨4, 1, 0⟩ : S39) [.int .i64 4, .int .i64 1, .int .i64 0] from (k39_mkM _ _ _ (⟨4, 1, 0⟩ : S39) )) (Reps.c3 (show Kd.M k39 _ _ _ (⟨2, 0, 0⟩ : S39) [.int .i64 2, .int .i64 0, .int .i64 0] from (k39_mkM _ _ _ (⟨2, 0, 0⟩ : S39) )) (Reps.none _ _)))); intro v193 w37 ho38 hb hg_ hnew_; clear hg_ hnew_; (first | rw [← Ny192.out] at ho38 | (simp only [Int.reduceToNat] at ho38; rw [← Ny192.out] at ho38)); have n0_ := Aside0.mk (Kd.R_elder' (by (with_reducible repeat (first | apply Kd.R_alloc | apply Kd.R_drewN | apply Kd.R_drew)); exact HO169.out) (Kd.R_base ho38) hb); have n1_ := Aside0.mk (Kd.R_below (by (with_reducible repeat (first | apply Kd.R_alloc | apply Kd.R_drewN | apply Kd.R_drew)); exact HO173.out) hb); have n2_ := Aside0.mk (Kd.R_below (by (with_reducible repeat (first | apply Kd.R_alloc | apply Kd.R_drewN | apply Kd.R_drew)); exact HO180.out) hb); have n3_ := Aside0.mk (Kd.R_elder' (by (with_reducible repeat (first | apply Kd.R_alloc | apply Kd.R_drewN | apply Kd.R_drew)); exact HO187.out) (Kd.R_base ho38) hb); have n4_ := Aside0.mk (Kd.R_lower (Kd.R_new' (Kd.R_new' ho38 (Kd.R_lt (by (with_reducible repeat (first | apply Kd.R_alloc | apply Kd.R_drewN | apply Kd.R_drew)); exact HO169.out))) (Kd.R_lt (by (with_reducible repeat (first | apply Kd.R_alloc | apply Kd.R_drewN | apply Kd.R_drew)); exact HO187.out))) (below_size (by repeat (first | (with_reducible first | exact HB.out | apply below_alloc | apply pw_below_drewN | apply below_drew1 | refine below_set ?_ GE176.out | refine below_set ?_ GE183.out) | exact HB.out)))); have n5_ := Aside0.mk (blk_below (g := gb176) (o := .cells #[.bool false, .slice Ao13 t171.length co13, .string t174] 55 (0, 0)) (by (with_reducible repeat (first | refine blk_drewN ?_ _ | refine blk_drew ?_ | refine blk_alloc ?_ _)); exact BK176.out) hb); have n6_ := Aside0.mk (blk_below (g := gb183) (o := .cells #[.bool true, .slice Ao18 t178.length co18, .string t181] 55 (0, 0)) (by (with_reducible repeat (first | refine blk_drewN ?_ _ | refine blk_drew ?_ | refine blk_alloc ?_ _)); exact BK183.out) hb); have n7_ := Aside0.mk (below_step (by repeat (first | (with_reducible first | exact HB.out | apply below_alloc | apply pw_below_drewN | apply below_drew1 | refine below_set ?_ GE176.out | refine below_set ?_ GE183.out) | exact HB.out)) hb); clear HO169; clear HO173; clear HO180; clear HO187; clear BK176; clear BK183; clear HB; have HO169 := n0_; have HO173 := n1_; have HO180 := n2_; have HO187 := n3_; have HO194 := n4_; have BK176 := n5_; have BK183 := n6_; have HB := n7_; clear n0_ n1_ n2_ n3_ n4_ n5_ n6_ n7_; clear hb ho38; obtain ⟨Ao39, co39, eo39⟩ := Kd.R_slice HO187.out; subst eo39; obtain ⟨Ao40, co40, eo40⟩ := Kd.R_slice HO194.out; subst eo40) | (go_at_call 20; (with_reducible refine (tickinglaw06_types.calls k _ _ t184 _ _ y192 true _ ?side1 ?side2 ?side3 ?side4 A30.out).mono ?_); (case side1 => repeat (first | exact (Kd.R_reads' HO187.out).2.2 | (with_reducible refine Kd.C_alloc ?_ _) | (with_reducible refine Kd.C_drewN ?_ _) | (with_reducible refine Kd.C_drew ?_))); (case side2 => exact (Kd.R_reads' HO187.out).2.1); (case side3 => repeat (first | exact (Kd.R_reads' HO194.out).2.2 | (with_reducible refine Kd.C_alloc ?_ _) | (with_reducible refine Kd.C_drewN ?_ _) | (with_reducible refine Kd.C_drew ?_))); (case side4 => exact (Kd.R_reads' HO194.out).2.1); rintro e w' ⟨rfl, ⟨nd, rfl⟩⟩))
  go_meet
  exact ⟨_, ((t191 != 6)), (by first | rfl | (simp; done) | (simp [*]; done)), H', ⟨by first | omega | exact Nat.le_refl _⟩, ⟨by (with_reducible repeat (first | apply Kd.R_alloc | apply Kd.R_drewN | apply Kd.R_drew)); exact Kd.R_mono HO173.out (fun _ hk => hk.2)⟩, ⟨by (with_reducible repeat (first | apply Kd.R_alloc | apply Kd.R_drewN | apply Kd.R_drew)); exact Kd.R_mono HO180.out (fun _ hk => hk.2)⟩, ⟨by (with_reducible repeat (first | refine blk_drewN ?_ _ | refine blk_drew ?_ | refine blk_alloc ?_ _)); exact BK176.out⟩, ⟨by (with_reducible repeat (first | refine blk_drewN ?_ _ | refine blk_drew ?_ | refine blk_alloc ?_ _)); exact BK183.out⟩, ⟨by repeat (first | (with_reducible first | exact HB.out | apply below_alloc | apply pw_below_drewN | apply below_drew1 | refine below_set ?_ GE176.out | refine below_set ?_ GE183.out) | exact HB.out)⟩⟩
 case rest =>
  clear HC6
  try clear c1
  try clear c2
  try clear p2
  try clear c3
  try clear c4
  try clear c5
  try clear c6
  try clear c7
  try clear c16
  try clear c17
  try clear c19
  try clear c22
  try clear c22b0
  try clear c22b1
  try clear c23
  try clear c24
  try clear c26
  try clear c26b0
  try clear c26b1
  try clear c27
  try clear c27b0
  try clear c27b1
  try clear c28
  try clear c29
  try clear c29b0
  try clear c29b1
  try clear c31
  try clear c32
  try clear c32b0
  try clear c32b1
  try clear c33
  try clear c33b0
  try clear c33b1
  try clear c34
  try clear c41
  try clear c48
  try clear c55
  try clear c62
  try clear c65
  try clear c68
  try clear c70
  try clear hcz12_0
  try clear hcz12_1
  try clear hcz12_2
  try clear hcz17_0
  try clear hcz17_1
  try clear hcz17_2
  try clear hcz25_0
  try clear hcz25_1
  try clear hcz25_2
  try clear hcz35_0
  try clear hcz35_1
  try clear hcz35_2
  try clear hcz36_0
  try clear hcz36_1
  try clear hcz36_2
  try clear hcz42_0
  try clear hcz42_1
  try clear hcz42_2
  try clear hcz43_0
  try clear hcz43_1
  try clear hcz43_2
  try clear hcz49_0
  try clear hcz49_1
  try clear hcz49_2
  try clear hcz50_0
  try clear hcz50_1
  try clear hcz50_2
  try clear hcz56_0
  try clear hcz56_1
  try clear hcz56_2
  try clear hcz57_0
  try clear hcz57_1
  try clear hcz57_2
  try clear hcz63_0
  try clear hcz63_1
  try clear hcz63_2
  try clear hcz64_0
  try clear hcz64_1
  try clear hcz64_2
  try clear hcz66_0
  try clear hcz66_1
  try clear hcz66_2
  try clear hcz67_0
  try clear hcz67_1
  try clear hcz67_2
  try clear hcz69_0
  try clear hcz69_1
  try clear hcz69_2
  try clear hcz71_0
  try clear hcz71_1
  try clear hcz71_2
  try clear hfz12_0
  try clear hfz12_1
  try clear hfz12_2
  try clear hfz17_0
  try clear hfz17_1
  try clear hfz17_2
  try clear hfz25_0
  try clear hfz25_1
  try clear hfz25_2
  try clear hfz35_0
  try clear hfz35_1
  try clear hfz35_2
  try clear hfz36_0
  try clear hfz36_1
  try clear hfz36_2
  try clear hfz42_0
  try clear hfz42_1
  try clear hfz42_2
  try clear hfz43_0
  try clear hfz43_1
  try clear hfz43_2
  try clear hfz49_0
  try clear hfz49_1
  try clear hfz49_2
  try clear hfz50_0
  try clear hfz50_1
  try clear hfz50_2
  try clear hfz56_0
  try clear hfz56_1
  try clear hfz56_2
  try clear hfz57_0
  try clear hfz57_1
  try clear hfz57_2
  try clear hfz63_0
  try clear hfz63_1
  try clear hfz63_2
  try clear hfz64_0
  try clear hfz64_1
  try clear hfz64_2
  try clear hfz66_0
  try clear hfz66_1
  try clear hfz66_2
  try clear hfz67_0
  try clear hfz67_1
  try clear hfz67_2
  try clear hfz69_0
  try clear hfz69_1
  try clear hfz69_2
  try clear hfz71_0
  try clear hfz71_1
  try clear hfz71_2
  obtain ⟨kq, x87_5, rfl, HA, HJ5, HO_177001, HO_184001, BK176, BK183, HB⟩ := hcut
  cases kq with
  | zero => exact absurd HA.out (by simp [tickinglaw06_awake.j0])
  | succ kj5 =>
   have H := HA.out
   clear HA
   simp only [tickinglaw06_awake.j0] at H
   by_cases c72 : x87_5 = true
   ·subst c72
    have H1 : (some false) = some r := by rw [if_pos rfl] at H; exact H
    clear H
    have H := H1
    clear H1
    obtain rfl := Option.some.inj H
    go_wp2
    go_ret
    exact ⟨by first | rfl | (simp [errW_none, errW_some] <;> rfl) | (simp [*, errW_none, errW_some] <;> rfl), by repeat (first | (with_reducible first | exact HB.out | apply below_alloc | apply pw_below_drewN | apply below_drew1 | refine below_set ?_ GE176.out | refine below_set ?_ GE183.out) | exact HB.out)⟩
   replace c72 := Bool.eq_false_iff.mpr c72
   subst c72
   have H1 : (some true) = some r := by rw [if_neg (show ¬ (false = true) by decide)] at H; exact H
   clear H
   have H := H1
   clear H1
   obtain rfl := Option.some.inj H
   go_wp2
   go_ret
   exact ⟨by first | rfl | (simp [errW_none, errW_some] <;> rfl) | (simp [*, errW_none, errW_some] <;> rfl), by repeat (first | (with_reducible first | exact HB.out | apply below_alloc | apply pw_below_drewN | apply below_drew1 | refine below_set ?_ GE176.out | refine below_set ?_ GE183.out) | exact HB.out)⟩

def tickinglaw06_mod.f (a0 : Int) (a1 : Int) : Option (Int) := if (IntKind.u64.wrap (a1)) = 0 then (none) else (some (wrap64 (Int.tmod (IntKind.u64.wrap (a0)) (IntKind.u64.wrap (a1)))))
set_option maxHeartbeats 8000000 in
set_option maxRecDepth 100000 in
theorem tickinglaw06_mod.calls (a0 : Int) (a1 : Int) (r : Int) (w : World) (h : tickinglaw06_mod.f a0 a1 = some r) :
  Calls Try.prog 24 #[.int .i64 a0, .int .i64 a1] w fun e w' => e = .returned (.int .i64 r) ∧ Drawn0 w w' := by
 have H : (if (IntKind.u64.wrap (a1)) = 0 then (none) else (some (wrap64 (Int.tmod (IntKind.u64.wrap (a0)) (IntKind.u64.wrap (a1)))))) = some r := h
 clear h
 by_cases c3 : (IntKind.u64.wrap (a1)) = 0
 ·rw [if_pos c3] at H
  exact absurd H (by simp)
 rw [if_neg c3] at H
 have c3b0 : ((IntKind.u64.wrap (a1)) == 0) = false := beq_eq_false_iff_ne.mpr c3
 have c3b1 : ((IntKind.u64.wrap (a1)) != 0) = true := bne_iff_ne.mpr c3
 obtain rfl := Option.some.inj H
 go_enter Try.func24, Try.ntmps24
 go_wp2
 go_ret
 exact ⟨by first | rfl | (simp; done) | (simp [*]; done), by repeat (first | exact Drawn0.refl _ | apply Drawn0.step)⟩
end Go.Proofs.Ytnfmeafiaipplaa.S

namespace Go.Proofs.Ytnfmeafiaipplaa.S
open Go.Proofs.Ytnfmeafiaipplaa.Lib
open Go.RowKit Go.Proofs.YtnfmeafiaipplaaW.PrintWords Go.Proofs.YtnfmeafiaipplaaW.PrintLast Go.Proofs.YtnfmeafiaipplaaW.PrintMore
set_option linter.unusedVariables false

structure Box (w : World) (g : Nat) (v : Value) (xs : List S39) (x y z : Int) (W : World) : Prop where
 low : w.heap.size ≤ g
 below : Below w.heap.size w W
 blk : W.heap[g]? = some (.cells #[.int .i64 x, .int .i64 y, .int .i64 z] 39 (0, 0))
 row : Kd.R k39 39 W w.heap.size (fun k => k ≠ g) v xs
section
variable {w W W0 : World} {g : Nat} {v : Value} {xs : List S39} {x y z : Int}
theorem Box.put0 (h : Box w g v xs x y z W) (u : Int) : Box w g v xs u y z (W.setCell ⟨g, 0, none⟩ (.int .i64 u)) := ⟨h.low, below_set h.below h.low, blk_put h.blk 0 _ rfl, Kd.R_far (p := ⟨g, 0, none⟩) h.row (fun _ hk => hk) _⟩
theorem Box.put1 (h : Box w g v xs x y z W) (u : Int) : Box w g v xs x u z (W.setCell ⟨g, 1, none⟩ (.int .i64 u)) := ⟨h.low, below_set h.below h.low, blk_put h.blk 1 _ rfl, Kd.R_far (p := ⟨g, 1, none⟩) h.row (fun _ hk => hk) _⟩
theorem Box.put2 (h : Box w g v xs x y z W) (u : Int) : Box w g v xs x y u (W.setCell ⟨g, 2, none⟩ (.int .i64 u)) := ⟨h.low, below_set h.below h.low, blk_put h.blk 2 _ rfl, Kd.R_far (p := ⟨g, 2, none⟩) h.row (fun _ hk => hk) _⟩
theorem Box.drewN (h : Box w g v xs x y z W) (n : Nat) : Box w g v xs x y z (W.drewN n) := ⟨h.low, pw_below_drewN h.below n, h.blk, Kd.R_drewN h.row n⟩
theorem Box.drew (h : Box w g v xs x y z W) : Box w g v xs x y z W.drew := ⟨h.low, below_drew1 h.below, h.blk, Kd.R_drew h.row⟩
theorem Box.made {ok : Nat → Prop} (hB : Below w.heap.size w W0) (hR : Kd.R k39 39 W0 w.heap.size ok v xs) (hg : g = W0.heap.size) (hbox : W.heap[g]? = some (.cells #[.int .i64 0, .int .i64 0, .int .i64 0] 39 (0, 0))) (hb : Below W0.heap.size W0 W) : Box w g v xs 0 0 0 W :=
 ⟨by rw [hg]; exact hB.size, below_step hB hb, hbox, Kd.R_mono (Kd.R_below (Kd.R_elderB hR g (Nat.le_of_eq hg.symm)) hb) (fun _ hk => hk.2)⟩
theorem Box.cell0 (h : Box w g v xs x y z W) : W.cell? ⟨g, 0, none⟩ = some (.int .i64 x) := (blk_cell h.blk 0).trans rfl
theorem Box.cell1 (h : Box w g v xs x y z W) : W.cell? ⟨g, 1, none⟩ = some (.int .i64 y) := (blk_cell h.blk 1).trans rfl
theorem Box.cell2 (h : Box w g v xs x y z W) : W.cell? ⟨g, 2, none⟩ = some (.int .i64 z) := (blk_cell h.blk 2).trans rfl
theorem Box.fz (h : Box w g v xs x y z W) (i : Nat) : W.frozen? ⟨g, i, none⟩ = false := blk_frozen h.blk i
/-- What lay in memory ahead. -/
theorem Box.old (h : Box w g v xs x y z W) {a : Addr} {u : Value} (hc : w.cell? a = some u) : W.cell? a = some u := (h.below.cell (World.block_lt_of_cell? w _ hc)).trans hc
end
section
variable {P : Program} {ops : Array Oper} {rest : List Oper} {o : Oper} {a : Act} {Q : Exit → Act → World → Prop}
theorem put_event {w W W1 : World} {g : Nat} {vv : Value} {xs : List S39} (x y z : Int) (hgd : o.guard = none) {t : TypeId} {p : Tmp} {vo : Operand} (ho : o.op = .store t (.tmp p) vo) (hN : o.dst = none)
  (hrun : (execOp a.eval o).run P W = .ok .skip W1) (hb : Box w g vv xs x y z W1) (h : ∀ W', Box w g vv xs x y z W' → wpList P ops Q rest a W') : wpList P ops Q (o :: rest) a W :=
 store_event hgd ho hN hrun (fun w' e => h w' (e ▸ hb))
end
end Go.Proofs.Ytnfmeafiaipplaa.S

namespace Go.Proofs.Ytnfmeafiaipplaa.S
open Go.Proofs.Ytnfmeafiaipplaa.Lib
open Go.Maps (Keyed)
open Go.RowKit Go.Proofs.YtnfmeafiaipplaaW.PrintWords Go.Proofs.YtnfmeafiaipplaaW.PrintLast Go.Proofs.YtnfmeafiaipplaaW.PrintMore
attribute [local go_sem] max2_int min2_int max_two min_two max_three min_three max_four min_four
set_option linter.unusedVariables false
set_option linter.unusedSimpArgs false

def tickinglaw06_tame.l0 : Nat → List (S39) → Int → List (S39) → Int → Option ((List (S39)))
 | 0, _, _, _, _ => none
 | k + 1, x0, x5, x6, x7 => if x7 < x5 then (if x7 < (x0.length : Int) then (if 0 ≤ x7 then ((tickinglaw06_mod.f ((rd_T39 x0 x7).f0) 6).bind fun t266 => (if t266 ≥ 4 then ((tickinglaw06_mod.f ((rd_T39 x0 x7).f1) x5).bind fun t268 => ((tickinglaw06_mod.f ((rd_T39 x0 x7).f2) x5).bind fun t270 => (if x6.length < 5864062014805 then (tickinglaw06_tame.l0 k x0 x5 (x6 ++ [(⟨t266, t268, t270⟩ : S39)]) (wrap64 (x7 + 1))) else (none)))) else (if x6.length < 5864062014805 then (tickinglaw06_tame.l0 k x0 x5 (x6 ++ [(⟨t266, 0, 0⟩ : S39)]) (wrap64 (x7 + 1))) else (none)))) else (none)) else (if x6.length < 5864062014805 then (tickinglaw06_tame.l0 k x0 x5 (x6 ++ [(⟨0, 0, 0⟩ : S39)]) (wrap64 (x7 + 1))) else (none))) else (some x6)
def tickinglaw06_tame.f (k : Nat) (l0 : List (S39)) (a1 : Int) : Option ((List (S39))) := (tickinglaw06_mod.f (wrap64 ((l0.length : Int) - 1)) a1).bind fun t263 => (tickinglaw06_tame.l0 k l0 (wrap64 (1 + t263)) ([] : List (S39)) 0)
set_option maxHeartbeats 8000000 in
set_option maxRecDepth 100000 in
theorem tickinglaw06_tame.calls (k : Nat) (A0 : Option Addr) (c0 : Nat) (l0 : List (S39)) (a1 : Int) (r : List (S39)) (w : World) (hr0 : Kd.C k39 w A0 l0.length l0) (hc0 : l0.length ≤ c0) (h : tickinglaw06_tame.f k l0 a1 = some r) :
  Calls Try.prog 23 #[.slice A0 l0.length c0, .int .i64 a1] w fun e w' => ∃ v0_ : Value, e = .returned (v0_) ∧ Kd.R k39 39 w' w.heap.size (fun _ => True) v0_ r ∧ Below w.heap.size w w' := by
 have hu39 := Try.underlying39
 have HR0 := Aside0.mk hr0
 have HC0 := Aside0.mk hc0
 clear hr0 hc0
 have HB := Aside0.mk (Below.refl w.heap.size w)
 have H : ((tickinglaw06_mod.f (wrap64 ((l0.length : Int) - 1)) a1).bind fun t263 => (tickinglaw06_tame.l0 k l0 (wrap64 (1 + t263)) ([] : List (S39)) 0)) = some r := h
 clear h
 replace H := Option.bind_eq_some_iff.mp H
 obtain ⟨t263, A30, H⟩ := H
 replace H : (tickinglaw06_tame.l0 k l0 (wrap64 (1 + t263)) ([] : List (S39)) 0) = some r := H
 have A3 := Aside0.mk A30
 clear A30
 have H' := Aside0.mk H
 clear H
 go_enter Try.func23, Try.ntmps23
 go_wp2_with (first | ((with_reducible refine gate_callee (f := 24) rfl ?_); refine goesL_ (some 13) rfl rfl Try.func24 (by kernel_rfl) rfl #[.int .i64 (wrap64 ((l0.length : Int) - 1)), .int .i64 a1] rfl (by (try simp only [List.map_toArray, List.map_cons, List.map_nil]); first | done | rfl | (simp only [List.length_drop, List.length_take]; rfl)) ?_; (with_reducible refine (tickinglaw06_mod.calls (wrap64 ((l0.length : Int) - 1)) a1 t263 _ A3.out).mono ?_); rintro e w' ⟨rfl, ⟨nd, rfl⟩⟩; refine ⟨_, rfl, ?_⟩))
 go_loopg [6, 7] k (fun kq v6 v7 w' => ∃ (x6_1 : List (S39)) (x7_1 : Int), v7 = .int .i64 x7_1 ∧ Aside0 (tickinglaw06_tame.l0 kq l0 (wrap64 (1 + t263)) x6_1 x7_1 = some r) ∧ Aside0 (kq ≤ k) ∧ Aside0 (Kd.R k39 39 w' w.heap.size (fun _ => True) v6 x6_1) ∧ Aside0 (Below w.heap.size w w'))
 case atStart => exact ⟨(([] : List (S39))), (0), (by first | rfl | (simp; done) | (simp [*]; done)), H', ⟨Nat.le_refl _⟩, ⟨by first | exact Kd.R_nil _ _ _ _ _ | exact Kd.N_nil _ _ _ _ _ | exact Kd.V_nil _ _ _ _ _ | exact Kd.Q_nil _ _ _ _ _ | exact Kd.S_nil _ _ _ _ _⟩, ⟨by repeat (first | (with_reducible first | exact HB.out | apply below_alloc | apply pw_below_drewN | apply below_drew1) | exact HB.out)⟩⟩
 clear H'
 try clear c2
 try clear p2
 obtain ⟨x6_1, x7_1, rfl, HA, HK1, HO_6, HB⟩ := hrel
 cases gk with
 | zero => exact absurd HA.out (by simp [tickinglaw06_tame.l0])
 | succ k1 =>
  have H := HA.out
  clear HA
  simp only [tickinglaw06_tame.l0] at H
  by_cases c4 : x7_1 < (wrap64 (1 + t263))
  rotate_left
  ·rw [if_neg c4] at H
   have c4b0 : decide (x7_1 < (wrap64 (1 + t263))) = false := decide_eq_false c4
   clear c4
   obtain rfl := Option.some.inj H
   go_wp2
   go_ret
   exact ⟨_, by first | rfl | (simp [errW_none, errW_some] <;> rfl) | (simp [*, errW_none, errW_some] <;> rfl), by (with_reducible repeat (first | apply Kd.R_alloc | apply Kd.R_drewN | apply Kd.R_drew)); exact HO_6.out, by repeat (first | (with_reducible first | exact HB.out | apply below_alloc | apply pw_below_drewN | apply below_drew1) | exact HB.out)⟩
  rw [if_pos c4] at H
  have c4b0 : decide (x7_1 < (wrap64 (1 + t263))) = true := decide_eq_true c4
  clear c4
  by_cases c5 : x7_1 < (l0.length : Int)
  rotate_left
  ·rw [if_neg c5] at H
   have c5b0 : decide (x7_1 < (l0.length : Int)) = false := decide_eq_false c5
   clear c5
   by_cases c19 : x6_1.length < 5864062014805
   rotate_left
   ·rw [if_neg c19] at H
    exact absurd H (by simp)
   rw [if_pos c19] at H
   have LMc19 := Aside0.mk c19
   clear c19
   obtain ⟨y277, hy277⟩ : ∃ y_ : List (S39), y_ = (x6_1 ++ [(⟨0, 0, 0⟩ : S39)]) := ⟨_, rfl⟩
   replace H : (tickinglaw06_tame.l0 k1 l0 (wrap64 (1 + t263)) y277 (wrap64 (x7_1 + 1))) = some r := by first | (rw [hy277]; with_reducible exact H) | (have H2_ := (Option.bind_some _ _).symm.trans H; rw [hy277]; with_reducible exact H2_) | (have H2_ := (Option.bind_some _ _).symm.trans H; with_reducible exact H2_) | with_reducible exact H | (rw [hy277]; exact H) | exact H
   have Ny277 := Aside0.mk hy277
   clear hy277
   have H' := Aside0.mk H
   clear H
   go_wp2_with (first | ((with_reducible refine gate_dst (N := 8) rfl ?_); refine box_event ?hg (N := 8) ?hd (cs := #[.int .i64 0, .int .i64 0, .int .i64 0]) (t := 39) ?hr ?_; (case hd => rfl); (case hg => rfl); (case hr => first | (go_simp; done) | (go_simp; rfl)); intro gb hg wb hbox hb; have BX := Aside0.mk (Box.made (by repeat (first | exact HB.out | apply below_alloc | apply pw_below_drewN | apply below_drew1)) (by (with_reducible repeat (first | apply Kd.R_alloc | apply Kd.R_drewN | apply Kd.R_drew)); exact HO_6.out) hg hbox hb); clear hg hbox hb HB HO_6; have hc0 := BX.out.cell0; have hc1 := BX.out.cell1; have hc2 := BX.out.cell2; have hf0 := BX.out.fz 0; have hf1 := BX.out.fz 1; have hf2 := BX.out.fz 2) | ((with_reducible refine gate_store (t := 39) (p := 8) rfl ?_); refine put_event (w := w) (g := gb) (vv := u6) (xs := x6_1) (W1 := ?W1_8_2) (0)  (0)  (0) rfl rfl rfl ?hr ?hb ?_; (case hr => first | (go_simp; done) | (go_simp; rfl)); (case hb => exact (Box.put2 (Box.put1 (Box.put0 (by repeat (first | exact BX.out | apply Box.drewN | apply Box.drew)) 0) 0) 0)); intro wb hbx; clear BX; have BX := Aside0.mk hbx; clear hbx; clear hc0 hc1 hc2 hf0 hf1 hf2; have hc0 := BX.out.cell0; have hc1 := BX.out.cell1; have hc2 := BX.out.cell2; have hf0 := BX.out.fz 0; have hf1 := BX.out.fz 1; have hf2 := BX.out.fz 2) | ((with_reducible refine gate_builtin (b := .append) (xs := #[.tmp 51, .tmp 53]) rfl ?_); at_builtin; refine Kd.R_append k39 (w0 := w) w.heap.size rfl (.tmp 51) (.tmp 53) 22 39 (.agg #[(.int .i64 0), (.int .i64 0), (.int .i64 0)]) 24 rfl Try.underlying22 info39 rfl (by decide) (by omega) u6 x6_1 (⟨0, 0, 0⟩ : S39) [.int .i64 ((0)), .int .i64 ((0)), .int .i64 ((0))] (fun k_ => k_ ≠ gb) (fun _ => False) rfl (by first | (go_simp; done) | (go_simp; rfl)) ?aP (fun _ hk => hk.elim) ?aF ?aO ?aB ?aS ?aL ?_; (case aP => exact k39_mkM _ _ _ (⟨0, 0, 0⟩ : S39)); (case aB => repeat (first | exact BX.out.below | apply below_alloc | apply pw_below_drewN | apply below_drew1)); (case aF => exact (Kd.freshB (by repeat (first | exact BX.out.blk | refine blk_drewN ?_ _ | refine blk_drew ?_ | refine blk_alloc ?_ _)))); (case aO => repeat (first | exact BX.out.row | apply Kd.R_alloc | apply Kd.R_drewN | apply Kd.R_drew)); (case aS => exact (below_size (by repeat (first | exact BX.out.below | apply below_alloc | apply pw_below_drewN | apply below_drew1)))); (case aL => have := LMc19.out; omega); intro v13 w13 ho hb hg hat; rw [← Ny277.out] at ho; clear BX; have HO279 := Aside0.mk ho; have HB := Aside0.mk hb; clear ho hb hg hat))
   go_roundg k1
   case measure => have := HK1.out; omega
   exact ⟨(y277), (wrap64 (x7_1 + 1)), (by first | rfl | (simp; done) | (simp [*]; done)), H', ⟨by have := HK1.out; omega⟩, ⟨by (with_reducible repeat (first | apply Kd.R_alloc | apply Kd.R_drewN | apply Kd.R_drew)); exact Kd.R_mono HO279.out (fun _ hk => trivial)⟩, ⟨by repeat (first | (with_reducible first | exact HB.out | apply below_alloc | apply pw_below_drewN | apply below_drew1) | exact HB.out)⟩⟩
  rw [if_pos c5] at H
  have c5b0 : decide (x7_1 < (l0.length : Int)) = true := decide_eq_true c5
  clear c5
  by_cases c6 : 0 ≤ x7_1
  rotate_left
  ·rw [if_neg c6] at H
   exact absurd H (by simp)
  rw [if_pos c6] at H
  have c6b0 : decide (0 ≤ x7_1) = true := decide_eq_true c6
  clear c6
  replace H := Option.bind_eq_some_iff.mp H
  obtain ⟨t266, A70, H⟩ := H
  replace H : (if t266 ≥ 4 then ((tickinglaw06_mod.f ((rd_T39 l0 x7_1).f1) (wrap64 (1 + t263))).bind fun t268 => ((tickinglaw06_mod.f ((rd_T39 l0 x7_1).f2) (wrap64 (1 + t263))).bind fun t270 => (if x6_1.length < 5864062014805 then (tickinglaw06_tame.l0 k1 l0 (wrap64 (1 + t263)) (x6_1 ++ [(⟨t266, t268, t270⟩ : S39)]) (wrap64 (x7_1 + 1))) else (none)))) else (if x6_1.length < 5864062014805 then (tickinglaw06_tame.l0 k1 l0 (wrap64 (1 + t263)) (x6_1 ++ [(⟨t266, 0, 0⟩ : S39)]) (wrap64 (x7_1 + 1))) else (none))) = some r := H
  have A7 := Aside0.mk A70
  clear A70
  by_cases c8 : t266 ≥ 4
  rotate_left
  ·rw [if_neg c8] at H
   have c8b0 : decide (4 ≤ t266) = false := decide_eq_false c8
   clear c8
   by_cases c15 : x6_1.length < 5864062014805
   rotate_left
   ·rw [if_neg c15] at H
    exact absurd H (by simp)
   rw [if_pos c15] at H
   have LMc15 := Aside0.mk c15
   clear c15
   obtain ⟨y274, hy274⟩ : ∃ y_ : List (S39), y_ = (x6_1 ++ [(⟨t266, 0, 0⟩ : S39)]) := ⟨_, rfl⟩
   replace H : (tickinglaw06_tame.l0 k1 l0 (wrap64 (1 + t263)) y274 (wrap64 (x7_1 + 1))) = some r := by first | (rw [hy274]; with_reducible exact H) | (have H2_ := (Option.bind_some _ _).symm.trans H; rw [hy274]; with_reducible exact H2_) | (have H2_ := (Option.bind_some _ _).symm.trans H; with_reducible exact H2_) | with_reducible exact H | (rw [hy274]; exact H) | exact H
   have Ny274 := Aside0.mk hy274
   clear hy274
   have H' := Aside0.mk H
   clear H
   have p_ : 0 ≤ (x7_1 : Int) := of_decide_eq_true (by first | (with_reducible assumption) | assumption)
   have q_ : x7_1 < (l0.length : Int) := of_decide_eq_true (by first | (with_reducible assumption) | assumption)
   obtain ⟨ad_, e_, hx0, hx1, hx2⟩ := at_T39 HR0.out x7_1 p_ q_
   cases e_
   have HX0 := Aside0.mk hx0
   have HX1 := Aside0.mk hx1
   have HX2 := Aside0.mk hx2
   clear hx0 hx1 hx2
   replace p_ := eq_true p_
   replace q_ := eq_true q_
   go_wp2_with (first | ((with_reducible refine gate_dst (N := 8) rfl ?_); refine box_event ?hg (N := 8) ?hd (cs := #[.int .i64 0, .int .i64 0, .int .i64 0]) (t := 39) ?hr ?_; (case hd => rfl); (case hg => rfl); (case hr => first | (go_simp; done) | (go_simp; rfl)); intro gb hg wb hbox hb; have BX := Aside0.mk (Box.made (by repeat (first | exact HB.out | apply below_alloc | apply pw_below_drewN | apply below_drew1)) (by (with_reducible repeat (first | apply Kd.R_alloc | apply Kd.R_drewN | apply Kd.R_drew)); exact HO_6.out) hg hbox hb); clear hg hbox hb HB HO_6; have hc0 := BX.out.cell0; have hc1 := BX.out.cell1; have hc2 := BX.out.cell2; have hf0 := BX.out.fz 0; have hf1 := BX.out.fz 1; have hf2 := BX.out.fz 2; have hl0 := BX.out.old HX0.out; have hl1 := BX.out.old HX1.out; have hl2 := BX.out.old HX2.out) | ((with_reducible refine gate_store (t := 39) (p := 8) rfl ?_); refine put_event (w := w) (g := gb) (vv := u6) (xs := x6_1) (W1 := ?W1_8_1) (0)  (0)  (0) rfl rfl rfl ?hr ?hb ?_; (case hr => first | (go_simp; done) | (go_simp; rfl)); (case hb => exact (Box.put2 (Box.put1 (Box.put0 (by repeat (first | exact BX.out | apply Box.drewN | apply Box.drew)) 0) 0) 0)); intro wb hbx; clear BX; have BX := Aside0.mk hbx; clear hbx; clear hc0 hc1 hc2 hf0 hf1 hf2; clear hl0 hl1 hl2; have hc0 := BX.out.cell0; have hc1 := BX.out.cell1; have hc2 := BX.out.cell2; have hf0 := BX.out.fz 0; have hf1 := BX.out.fz 1; have hf2 := BX.out.fz 2; have hl0 := BX.out.old HX0.out; have hl1 := BX.out.old HX1.out; have hl2 := BX.out.old HX2.out) | ((with_reducible refine gate_dst (N := 30) rfl ?_); (with_reducible refine gate_callee (f := 24) rfl ?_); refine goesL_ (some 30) rfl rfl Try.func24 (by kernel_rfl) rfl #[.int .i64 ((rd_T39 l0 x7_1).f0), .int .i64 6] rfl (by (try simp only [List.map_toArray, List.map_cons, List.map_nil]); first | done | rfl | (simp only [List.length_drop, List.length_take]; rfl)) ?_; (with_reducible refine (tickinglaw06_mod.calls ((rd_T39 l0 x7_1).f0) 6 t266 _ A7.out).mono ?_); rintro e w' ⟨rfl, ⟨nd, rfl⟩⟩; refine ⟨_, rfl, ?_⟩) | ((with_reducible refine gate_store (t := 3) (p := 31) rfl ?_); refine put_event (w := w) (g := gb) (vv := u6) (xs := x6_1) (W1 := ?W1_31_1) t266  (0)  (0) rfl rfl rfl ?hr ?hb ?_; (case hr => first | (go_simp; done) | (go_simp; rfl)); (case hb => exact (Box.put0 (by repeat (first | exact BX.out | apply Box.drewN | apply Box.drew)) t266)); intro wb hbx; clear BX; have BX := Aside0.mk hbx; clear hbx; clear hc0 hc1 hc2 hf0 hf1 hf2; clear hl0 hl1 hl2; have hc0 := BX.out.cell0; have hc1 := BX.out.cell1; have hc2 := BX.out.cell2; have hf0 := BX.out.fz 0; have hf1 := BX.out.fz 1; have hf2 := BX.out.fz 2; have hl0 := BX.out.old HX0.out; have hl1 := BX.out.old HX1.out; have hl2 := BX.out.old HX2.out) | ((with_reducible refine gate_builtin (b := .append) (xs := #[.tmp 51, .tmp 53]) rfl ?_); at_builtin; refine Kd.R_append k39 (w0 := w) w.heap.size rfl (.tmp 51) (.tmp 53) 22 39 (.agg #[(.int .i64 0), (.int .i64 0), (.int .i64 0)]) 24 rfl Try.underlying22 info39 rfl (by decide) (by omega) u6 x6_1 (⟨t266, 0, 0⟩ : S39) [.int .i64 ((t266)), .int .i64 ((0)), .int .i64 ((0))] (fun k_ => k_ ≠ gb) (fun _ => False) rfl (by first | (go_simp; done) | (go_simp; rfl)) ?aP (fun _ hk => hk.elim) ?aF ?aO ?aB ?aS ?aL ?_; (case aP => exact k39_mkM _ _ _ (⟨t266, 0, 0⟩ : S39)); (case aB => repeat (first | exact BX.out.below | apply below_alloc | apply pw_below_drewN | apply below_drew1)); (case aF => exact (Kd.freshB (by repeat (first | exact BX.out.blk | refine blk_drewN ?_ _ | refine blk_drew ?_ | refine blk_alloc ?_ _)))); (case aO => repeat (first | exact BX.out.row | apply Kd.R_alloc | apply Kd.R_drewN | apply Kd.R_drew)); (case aS => exact (below_size (by repeat (first | exact BX.out.below | apply below_alloc | apply pw_below_drewN | apply below_drew1)))); (case aL => have := LMc15.out; omega); intro v13 w13 ho hb hg hat; rw [← Ny274.out] at ho; clear BX; have HO276 := Aside0.mk ho; have HB := Aside0.mk hb; clear ho hb hg hat))
   go_roundg k1
   case measure => have := HK1.out; omega
   exact ⟨(y274), (wrap64 (x7_1 + 1)), (by first | rfl | (simp; done) | (simp [*]; done)), H', ⟨by have := HK1.out; omega⟩, ⟨by (with_reducible repeat (first | apply Kd.R_alloc | apply Kd.R_drewN | apply Kd.R_drew)); exact Kd.R_mono HO276.out (fun _ hk => trivial)⟩, ⟨by repeat (first | (with_reducible first | exact HB.out | apply below_alloc | apply pw_below_drewN | apply below_drew1) | exact HB.out)⟩⟩
  rw [if_pos c8] at H
  have c8b0 : decide (4 ≤ t266) = true := decide_eq_true c8
  clear c8
  replace H := Option.bind_eq_some_iff.mp H
  obtain ⟨t268, A90, H⟩ := H
  replace H : ((tickinglaw06_mod.f ((rd_T39 l0 x7_1).f2) (wrap64 (1 + t263))).bind fun t270 => (if x6_1.length < 5864062014805 then (tickinglaw06_tame.l0 k1 l0 (wrap64 (1 + t263)) (x6_1 ++ [(⟨t266, t268, t270⟩ : S39)]) (wrap64 (x7_1 + 1))) else (none))) = some r := H
  have A9 := Aside0.mk A90
  clear A90
  replace H := Option.bind_eq_some_iff.mp H
  obtain ⟨t270, A100, H⟩ := H
  replace H : (if x6_1.length < 5864062014805 then (tickinglaw06_tame.l0 k1 l0 (wrap64 (1 + t263)) (x6_1 ++ [(⟨t266, t268, t270⟩ : S39)]) (wrap64 (x7_1 + 1))) else (none)) = some r := H
  have A10 := Aside0.mk A100
  clear A100
  by_cases c11 : x6_1.length < 5864062014805
  rotate_left
  ·rw [if_neg c11] at H
   exact absurd H (by simp)
  rw [if_pos c11] at H
  have LMc11 := Aside0.mk c11
  clear c11
  obtain ⟨y271, hy271⟩ : ∃ y_ : List (S39), y_ = (x6_1 ++ [(⟨t266, t268, t270⟩ : S39)]) := ⟨_, rfl⟩
  replace H : (tickinglaw06_tame.l0 k1 l0 (wrap64 (1 + t263)) y271 (wrap64 (x7_1 + 1))) = some r := by first | (rw [hy271]; with_reducible exact H) | (have H2_ := (Option.bind_some _ _).symm.trans H; rw [hy271]; with_reducible exact H2_) | (have H2_ := (Option.bind_some _ _).symm.trans H; with_reducible exact H2_) | with_reducible exact H | (rw [hy271]; exact H) | exact H
  have Ny271 := Aside0.mk hy271
  clear hy271
  have H' := Aside0.mk H
  clear H
  have p_ : 0 ≤ (x7_1 : Int) := of_decide_eq_true (by first | (with_reducible assumption) | assumption)
  have q_ : x7_1 < (l0.length : Int) := of_decide_eq_true (by first | (with_reducible assumption) | assumption)
  obtain ⟨ad_, e_, hx0, hx1, hx2⟩ := at_T39 HR0.out x7_1 p_ q_
  cases e_
  have HX0 := Aside0.mk hx0
  have HX1 := Aside0.mk hx1
  have HX2 := Aside0.mk hx2
  clear hx0 hx1 hx2
  replace p_ := eq_true p_
  replace q_ := eq_true q_
  go_wp2_with (first | ((with_reducible refine gate_dst (N := 8) rfl ?_); refine box_event ?hg (N := 8) ?hd (cs := #[.int .i64 0, .int .i64 0, .int .i64 0]) (t := 39) ?hr ?_; (case hd => rfl); (case hg => rfl); (case hr => first | (go_simp; done) | (go_simp; rfl)); intro gb hg wb hbox hb; have BX := Aside0.mk (Box.made (by repeat (first | exact HB.out | apply below_alloc | apply pw_below_drewN | apply below_drew1)) (by (with_reducible repeat (first | apply Kd.R_alloc | apply Kd.R_drewN | apply Kd.R_drew)); exact HO_6.out) hg hbox hb); clear hg hbox hb HB HO_6; have hc0 := BX.out.cell0; have hc1 := BX.out.cell1; have hc2 := BX.out.cell2; have hf0 := BX.out.fz 0; have hf1 := BX.out.fz 1; have hf2 := BX.out.fz 2; have hl0 := BX.out.old HX0.out; have hl1 := BX.out.old HX1.out; have hl2 := BX.out.old HX2.out) | ((with_reducible refine gate_store (t := 39) (p := 8) rfl ?_); refine put_event (w := w) (g := gb) (vv := u6) (xs := x6_1) (W1 := ?W1_8_0) (0)  (0)  (0) rfl rfl rfl ?hr ?hb ?_; (case hr => first | (go_simp; done) | (go_simp; rfl)); (case hb => exact (Box.put2 (Box.put1 (Box.put0 (by repeat (first | exact BX.out | apply Box.drewN | apply Box.drew)) 0) 0) 0)); intro wb hbx; clear BX; have BX := Aside0.mk hbx; clear hbx; clear hc0 hc1 hc2 hf0 hf1 hf2; clear hl0 hl1 hl2; have hc0 := BX.out.cell0; have hc1 := BX.out.cell1; have hc2 := BX.out.cell2; have hf0 := BX.out.fz 0; have hf1 := BX.out.fz 1; have hf2 := BX.out.fz 2; have hl0 := BX.out.old HX0.out; have hl1 := BX.out.old HX1.out; have hl2 := BX.out.old HX2.out) | ((with_reducible refine gate_dst (N := 30) rfl ?_); (with_reducible refine gate_callee (f := 24) rfl ?_); refine goesL_ (some 30) rfl rfl Try.func24 (by kernel_rfl) rfl #[.int .i64 ((rd_T39 l0 x7_1).f0), .int .i64 6] rfl (by (try simp only [List.map_toArray, List.map_cons, List.map_nil]); first | done | rfl | (simp only [List.length_drop, List.length_take]; rfl)) ?_; (with_reducible refine (tickinglaw06_mod.calls ((rd_T39 l0 x7_1).f0) 6 t266 _ A7.out).mono ?_); rintro e w' ⟨rfl, ⟨nd, rfl⟩⟩; refine ⟨_, rfl, ?_⟩) | ((with_reducible refine gate_store (t := 3) (p := 31) rfl ?_); refine put_event (w := w) (g := gb) (vv := u6) (xs := x6_1) (W1 := ?W1_31_0) t266  (0)  (0) rfl rfl rfl ?hr ?hb ?_; (case hr => first | (go_simp; done) | (go_simp; rfl)); (case hb => exact (Box.put0 (by repeat (first | exact BX.out | apply Box.drewN | apply Box.drew)) t266)); intro wb hbx; clear BX; have BX := Aside0.mk hbx; clear hbx; clear hc0 hc1 hc2 hf0 hf1 hf2; clear hl0 hl1 hl2; have hc0 := BX.out.cell0; have hc1 := BX.out.cell1; have hc2 := BX.out.cell2; have hf0 := BX.out.fz 0; have hf1 := BX.out.fz 1; have hf2 := BX.out.fz 2; have hl0 := BX.out.old HX0.out; have hl1 := BX.out.old HX1.out; have hl2 := BX.out.old HX2.out) | ((with_reducible refine gate_dst (N := 41) rfl ?_); (with_reducible refine gate_callee (f := 24) rfl ?_); refine goesL_ (some 41) rfl rfl Try.func24 (by kernel_rfl) rfl #[.int .i64 ((rd_T39 l0 x7_1).f1), .int .i64 (wrap64 (1 + t263))] rfl (by (try simp only [List.map_toArray, List.map_cons, List.map_nil]); first | done | rfl | (simp only [List.length_drop, List.length_take]; rfl)) ?_; (with_reducible refine (tickinglaw06_mod.calls ((rd_T39 l0 x7_1).f1) (wrap64 (1 + t263)) t268 _ A9.out).mono ?_); rintro e w' ⟨rfl, ⟨nd, rfl⟩⟩; refine ⟨_, rfl, ?_⟩) | ((with_reducible refine gate_store (t := 3) (p := 42) rfl ?_); refine put_event (w := w) (g := gb) (vv := u6) (xs := x6_1) (W1 := ?W1_42_0) t266  t268  (0) rfl rfl rfl ?hr ?hb ?_; (case hr => first | (go_simp; done) | (go_simp; rfl)); (case hb => exact (Box.put1 (by repeat (first | exact BX.out | apply Box.drewN | apply Box.drew)) t268)); intro wb hbx; clear BX; have BX := Aside0.mk hbx; clear hbx; clear hc0 hc1 hc2 hf0 hf1 hf2; clear hl0 hl1 hl2; have hc0 := BX.out.cell0; have hc1 := BX.out.cell1; have hc2 := BX.out.cell2; have hf0 := BX.out.fz 0; have hf1 := BX.out.fz 1; have hf2 := BX.out.fz 2; have hl0 := BX.out.old HX0.out; have hl1 := BX.out.old HX1.out; have hl2 := BX.out.old HX2.out) | ((with_reducible refine gate_dst (N := 49) rfl ?_); (with_reducible refine gate_callee (f := 24) rfl ?_); refine goesL_ (some 49) rfl rfl Try.func24 (by kernel_rfl) rfl #[.int .i64 ((rd_T39 l0 x7_1).f2), .int .i64 (wrap64 (1 + t263))] rfl (by (try simp only [List.map_toArray, List.map_cons, List.map_nil]); first | done | rfl | (simp only [List.length_drop, List.length_take]; rfl)) ?_; (with_reducible refine (tickinglaw06_mod.calls ((rd_T39 l0 x7_1).f2) (wrap64 (1 + t263)) t270 _ A10.out).mono ?_); rintro e w' ⟨rfl, ⟨nd, rfl⟩⟩; refine ⟨_, rfl, ?_⟩) | ((with_reducible refine gate_store (t := 3) (p := 50) rfl ?_); refine put_event (w := w) (g := gb) (vv := u6) (xs := x6_1) (W1 := ?W1_50_0) t266  t268  t270 rfl rfl rfl ?hr ?hb ?_; (case hr => first | (go_simp; done) | (go_simp; rfl)); (case hb => exact (Box.put2 (by repeat (first | exact BX.out | apply Box.drewN | apply Box.drew)) t270)); intro wb hbx; clear BX; have BX := Aside0.mk hbx; clear hbx; clear hc0 hc1 hc2 hf0 hf1 hf2; clear hl0 hl1 hl2; have hc0 := BX.out.cell0; have hc1 := BX.out.cell1; have hc2 := BX.out.cell2; have hf0 := BX.out.fz 0; have hf1 := BX.out.fz 1; have hf2 := BX.out.fz 2; have hl0 := BX.out.old HX0.out; have hl1 := BX.out.old HX1.out; have hl2 := BX.out.old HX2.out) | ((with_reducible refine gate_builtin (b := .append) (xs := #[.tmp 51, .tmp 53]) rfl ?_); at_builtin; refine Kd.R_append k39 (w0 := w) w.heap.size rfl (.tmp 51) (.tmp 53) 22 39 (.agg #[(.int .i64 0), (.int .i64 0), (.int .i64 0)]) 24 rfl Try.underlying22 info39 rfl (by decide) (by omega) u6 x6_1 (⟨t266, t268, t270⟩ : S39) [.int .i64 ((t266)), .int .i64 ((t268)), .int .i64 ((t270))] (fun k_ => k_ ≠ gb) (fun _ => False) rfl (by first | (go_simp; done) | (go_simp; rfl)) ?aP (fun _ hk => hk.elim) ?aF ?aO ?aB ?aS ?aL ?_; (case aP => exact k39_mkM _ _ _ (⟨t266, t268, t270⟩ : S39)); (case aB => repeat (first | exact BX.out.below | apply below_alloc | apply pw_below_drewN | apply below_drew1)); (case aF => exact (Kd.freshB (by repeat (first | exact BX.out.blk | refine blk_drewN ?_ _ | refine blk_drew ?_ | refine blk_alloc ?_ _)))); (case aO => repeat (first | exact BX.out.row | apply Kd.R_alloc | apply Kd.R_drewN | apply Kd.R_drew)); (case aS => exact (below_size (by repeat (first | exact BX.out.below | apply below_alloc | apply pw_below_drewN | apply below_drew1)))); (case aL => have := LMc11.out; omega); intro v13 w13 ho hb hg hat; rw [← Ny271.out] at ho; clear BX; have HO273 := Aside0.mk ho; have HB := Aside0.mk hb; clear ho hb hg hat))
  go_roundg k1
  case measure => have := HK1.out; omega
  exact ⟨(y271), (wrap64 (x7_1 + 1)), (by first | rfl | (simp; done) | (simp [*]; done)), H', ⟨by have := HK1.out; omega⟩, ⟨by (with_reducible repeat (first | apply Kd.R_alloc | apply Kd.R_drewN | apply Kd.R_drew)); exact Kd.R_mono HO273.out (fun _ hk => trivial)⟩, ⟨by repeat (first | (with_reducible first | exact HB.out | apply below_alloc | apply pw_below_drewN | apply below_drew1) | exact HB.out)⟩⟩
end Go.Proofs.Ytnfmeafiaipplaa.S

namespace Go.Proofs.Ytnfmeafiaipplaa.S
open Go.Proofs.Ytnfmeafiaipplaa.Lib
open Go.Maps (Keyed)
open Go.ChangeMaps (setBlock)
open Go.RowKit Go.Proofs.YtnfmeafiaipplaaW.PrintWords Go.Proofs.YtnfmeafiaipplaaW.PrintLast Go.Proofs.YtnfmeafiaipplaaW.PrintMore
attribute [local go_sem] max2_int min2_int max_two min_two max_three min_three max_four min_four
set_option linter.unusedVariables false
set_option linter.unusedSimpArgs false

section
open Go.MapKept Go.WideElems Go.ChangeMaps
variable {w : World} {P : Program} {t k e : TypeId} {b m : Nat} {f : Value → Option Value}
/-- The entries of a map's block: what stands under their keys. -/
theorem MapAt.entries (h : MapAt w P k b m f) (K : Keyed P k) (ht : P.underlying t = some (.map k e)) {z : Value} (hz : (zeroValue e).run P w = .ok z w) :
  ∃ es clock, w.heap[b]? = some (.map es clock) ∧ Stamped es clock ∧ (∀ x ∈ es.toList, f x.key = some x.val) ∧ ∀ kv kl v, keyOf P k kv = some kl → f kv = some v → ∃ x ∈ es.toList, x.val = v := by
 have h' := h
 obtain ⟨D, ⟨es, clock, hb, F, hs, hD⟩, hsz, hat⟩ := h
 refine ⟨es, clock, hb, F.stamped, fun x hx => ?_, fun kv kl v hk hv => ?_⟩
 ·obtain ⟨kl, hkl⟩ := F.keys x hx
  have hr := h'.lookOk K ht hz hkl
  rcases K.find w hkl es.toList F.keys with ⟨q1, q2⟩ | ⟨j, e0, q1, q2, q3⟩
  ·exact absurd rfl (q2 x hx)
  have he0 : e0 ∈ es.toList := List.mem_of_getElem? q2
  have e00 : e0 = x := by
   have hn := F.stamped.2.2
   obtain ⟨i, hi, ei⟩ := List.getElem_of_mem hx
   obtain ⟨i0, hi0, ei0⟩ := List.getElem_of_mem he0
   have : i0 = i := (List.getElem_inj (h₀ := by simpa using hi0) (h₁ := by simpa using hi) hn).1 (by simp only [List.getElem_map, ei, ei0, q3])
   subst this
   rw [← ei, ← ei0]
  subst e00
  simp [Instr.lookup, run_underlying ht, MapKept.run_getObj_map hb, K.check w _ hkl, q1, Result.andThen] at hr
  obtain ⟨h1, h2⟩ := hr
  cases hf : f e0.key with
  | none => rw [hf] at h2; cases h2
  | some v => rw [hf] at h1; rw [h1]; rfl
 have hr := h'.lookOk K ht hz hk
 rcases K.find w hk es.toList F.keys with ⟨q1, q2⟩ | ⟨j, e0, q1, q2, q3⟩
 ·rw [hv] at hr
  simp [Instr.lookup, run_underlying ht, MapKept.run_getObj_map hb, K.check w _ hk, q1, hz, Result.andThen] at hr
 refine ⟨e0, List.mem_of_getElem? q2, ?_⟩
 rw [hv] at hr
 simp [Instr.lookup, run_underlying ht, MapKept.run_getObj_map hb, K.check w _ hk, q1, hz, Result.andThen] at hr
 exact hr
end
def inR (n : Nat) (p : S23) : Bool := decide (0 ≤ p.f0 ∧ p.f0 ≤ (n : Int) - 1) && decide (0 ≤ p.f1 ∧ p.f1 ≤ (n : Int) - 1)
def needL (m : Option (List Int × List Int)) (ds : List (List Int)) : Bool :=
 match m with
 | none => true
 | some (pa, pb) => decide (pa ∈ ds) && decide (pb ∈ ds)
def needB (t : List S39) (ds : List (List Int)) (p : S23) : Bool :=
 match needsF (rd_T39 t p.f0) (rd_T39 t p.f1) with
 | none => false
 | some m => needL m ds
def closedB (t : List S39) (l : List S23) (p : S23) : Bool := decide (l.length ≤ 600) && (l.all (inR t.length) && (l.all (needB t (l.map l23)) && decide (l23 p ∈ l.map l23)))
/-- What holds in memory all along. -/
structure ClSt (w wr : World) (p : S23) (ds : List (List Int)) (n : Nat) : Prop where
 below : Below w.heap.size w wr
 box : wr.heap[w.heap.size]? = some (.cells #[.int .i64 p.f0, .int .i64 p.f1] 23 (0, 0))
 map : ∃ m, m ≤ n ∧ MapAt wr Try.prog 23 (w.heap.size + 1) m (encL (inSet ds))
theorem ClSt.belowN {w wr wr' : World} {p : S23} {ds : List (List Int)} {n : Nat} (h : ClSt w wr p ds n) (hB : Below wr.heap.size wr wr') : ClSt w wr' p ds n := by
 obtain ⟨h1, h2, m, hm, h3⟩ := h
 exact ⟨below_then h1 h1.size hB, blk_below h2 hB, m, hm, h3.below hB⟩
theorem ClSt.lt {w wr : World} {p : S23} {ds : List (List Int)} {n : Nat} (h : ClSt w wr p ds n) : w.heap.size + 1 < wr.heap.size := by
 obtain ⟨h1, h2, m, hm, h3⟩ := h
 exact h3.lt
theorem heap_setBlock_ne (w : World) (r : Nat) (o : Obj) {i : Nat} (h : i ≠ r) : (setBlock w r o).heap[i]? = w.heap[i]? := by
 simp [setBlock, Array.getElem?_setIfInBounds, Ne.symm h]
theorem ClSt.turned {w wr : World} {p : S23} {ds : List (List Int)} {n : Nat} (h : ClSt w wr p ds n) {r : Nat} (hr : w.heap.size + 1 < r) (o : Obj) : ClSt w (setBlock wr r o) p ds n := by
 obtain ⟨h1, h2, m, hm, h3⟩ := h
 refine ⟨?_, ?_, m, hm, ?_⟩
 ·exact h1.trans ⟨rfl, rfl, rfl, by simp [setBlock], fun k hk => heap_setBlock_ne _ _ _ (by omega)⟩
 ·rw [heap_setBlock_ne _ _ _ (by omega)]; exact h2
 exact h3.block (heap_setBlock_ne _ _ _ (by omega))
/-- A pair goes into the set. -/
theorem ClSt.put {w wr : World} {p : S23} {ds : List (List Int)} {n : Nat} (h : ClSt w wr p ds n) (hn : n ≤ 10000) {a c : Int} (ha : I64 a) (hc : I64 c) :
  ∃ w', (Instr.mapUpdate 104 (.map (some (w.heap.size + 1))) (.agg #[.int .i64 a, .int .i64 c]) (.bool true)).run Try.prog wr = .ok () w' ∧ ClSt w w' p (ds ++ [[a, c]]) (n + 1) := by
 obtain ⟨h1, h2, m, hm, h3⟩ := h
 obtain ⟨w', r1, r2, r3⟩ := h3.store law23 Try.underlying104 (by unfold maxLen; omega) (key23 ha hc) (val := .bool true) (f' := encL (inSet (ds ++ [[a, c]]))) (inSet_new (ds := ds) (q := [a, c])) (inSet_far (ds := ds) (q := [a, c]))
 refine ⟨w', r1, Below.grown h1 r3 h1.size (fun k hk => by injection hk with hk; omega), blk_grown h2 r3 (by intro e; injection e with e; omega), _, ?_, r2⟩
 split <;> omega
/-- What a pair needs, asked in any order. -/
structure ClIt (wr : World) (r b : Nat) (es : Array MapEntry) (clock : Nat) (seen : Array Nat) : Prop where
 it : wr.heap[r]? = some (.mapIter (some b) clock seen clock)
 map : wr.heap[b]? = some (.map es clock)
theorem ClIt.below {wr wr' : World} {r b clock : Nat} {es : Array MapEntry} {seen : Array Nat} (h : ClIt wr r b es clock seen) (hB : Below wr.heap.size wr wr') : ClIt wr' r b es clock seen :=
 ⟨blk_below h.it hB, blk_below h.map hB⟩
open Go.MapKept in
theorem needs_entries {pa pb : List Int} {W : World} {b m : Nat} (h : MapAt W Try.prog 5 b m (encU (two8 pa pb))) :
  ∃ es clock, W.heap[b]? = some (.map es clock) ∧ Stamped es clock ∧ (∀ x ∈ es.toList, x.val = keyL pa ∨ x.val = keyL pb) ∧ (∃ x ∈ es.toList, x.val = keyL pa) ∧ ∃ x ∈ es.toList, x.val = keyL pb := by
 obtain ⟨es, clock, h1, h2, h3, h4⟩ := MapAt.entries h law5 Try.underlying77 (z23_run W)
 refine ⟨es, clock, h1, h2, fun x hx => ?_, h4 _ _ _ (key5 97 (by omega) (by omega)) rfl, h4 _ _ _ (key5 98 (by omega) (by omega)) rfl⟩
 have := h3 x hx
 unfold encU at this
 split at this
 ·unfold two8 at this
  split at this
  ·injection this with this; exact .inl this.symm
  split at this
  ·injection this with this; exact .inr this.symm
  cases this
 cases this
theorem keyL_inj {a b : List Int} (h : keyL a = keyL b) : a = b := by
 have := decL_key a
 rw [h, decL_key] at this
 injection this with this
 exact this.symm
theorem needL_no {pa pb q : List Int} {ds : List (List Int)} (h : q = pa ∨ q = pb) (hn : q ∉ ds) : needL (some (pa, pb)) ds = false := by
 unfold needL
 rcases h with rfl | rfl
 ·simp [hn]
 simp [hn]
theorem iterSeen_of {w : World} {r : Nat} {m : Option Nat} {s c : Nat} {seen : Array Nat} (h : w.heap[r]? = some (.mapIter m s seen c)) : w.iterSeen r = seen := by
 unfold World.iterSeen
 rw [h]
theorem noGoto_ret {Q : Exit → Act → World → Prop} {a : Act} {w : World} (h : Q Exit.ret a w) : Exit.noGoto Q Exit.ret a w := h
theorem rd23_in (l : List S23) {n : Nat} (h : n < l.length) : rd_T23 l (n : Int) = l[n] := by
 unfold rd_T23
 rw [List.getD_eq_getElem?_getD, Int.toNat_natCast, List.getElem?_eq_getElem h, Option.getD_some]
theorem take_next (l : List S23) {n : Nat} (h : n < l.length) : l.take (n + 1) = l.take n ++ [l[n]] := (List.take_append_getElem h).symm
theorem closed_no {t : List S39} {l : List S23} {p q : S23} (hq : q ∈ l) (h : inR t.length q = false) : closedB t l p = false := by
 unfold closedB
 have : l.all (inR t.length) = false := by
  rw [List.all_eq_false]
  exact ⟨q, hq, by rw [h]; decide⟩
 rw [this]
 simp
theorem closed_no2 {t : List S39} {l : List S23} {p q : S23} (hq : q ∈ l) (h : needB t (l.map l23) q = false) : closedB t l p = false := by
 unfold closedB
 have : l.all (needB t (l.map l23)) = false := by
  rw [List.all_eq_false]
  exact ⟨q, hq, by rw [h]; decide⟩
 rw [this]
 simp
set_option maxHeartbeats 4000000 in
set_option maxRecDepth 100000 in
theorem isClosed_fn.calls (A0 : Option Addr) (c0 : Nat) (l0 : List S39) (hall : allI l0) (hn0 : l0.length ≤ 1000) (A1 : Option Addr) (c1 : Nat) (l : List S23) (p : S23) (hp : I64 p.f0 ∧ I64 p.f1) (w : World) (hr0 : Kd.C k39 w A0 l0.length l0) (hr1 : Kd.C k23 w A1 l.length l) :
  Calls Try.prog 55 #[.slice A0 l0.length c0, .slice A1 l.length c1, .agg #[.int .i64 p.f0, .int .i64 p.f1]] w fun e w' => e = .returned (.bool (closedB l0 l p)) ∧ Below w.heap.size w w' := by
 have hl : (l.length : Int) ≤ 9223372036854775807 := by have := hr1.2.1; omega
 by_cases k1 : l.length ≤ 600
 case neg =>
  have k1b : decide ((600 : Int) < (l.length : Int)) = true := decide_eq_true (by omega)
  have he : closedB l0 l p = false := by unfold closedB; rw [decide_eq_false k1]; rfl
  rw [he]
  clear hr0 hr1 hall he hl k1
  go_enter Try.func55, Try.ntmps55
  go_wp2
  refine wp_scope_straight ?_
  go_wp2
  refine noGoto_ret ?_
  go_big_open
  go_ret
  exact ⟨rfl, below_alloc (Below.refl _ _) _⟩
 have k1b : decide ((600 : Int) < (l.length : Int)) = false := decide_eq_false (by omega)
 have hmm := @run_makeMap Try.prog
 have HS0 := Aside0.mk (show ClSt w ((w.alloc (.cells #[.int .i64 p.f0, .int .i64 p.f1] 23)).alloc (.map #[] 0)) p [] 0 from ⟨below_alloc (below_alloc (Below.refl _ _) _) _, blk_below (heap_alloc_new w _) (below_alloc (Below.refl _ _) _), 0, Nat.le_refl _, by
  have := MapAt.made (w.alloc (.cells #[.int .i64 p.f0, .int .i64 p.f1] 23)) Try.prog 23
  simp only [World.size_alloc] at this
  exact this.congr (fun kv kl _ => by unfold encL inSet; cases decL kv <;> simp)⟩)
 have HL := Aside0.mk k1
 have HN0 := Aside0.mk hn0
 have HR0 := Aside0.mk hr0
 have HR1 := Aside0.mk hr1
 have HAL := Aside0.mk hall
 have HP := Aside0.mk hp
 obtain ⟨R, hR⟩ : ∃ R, R = closedB l0 l p := ⟨_, rfl⟩
 rw [← hR]
 have HRR := Aside0.mk hR
 clear hr0 hr1 hall hp hR hl k1 hn0
 go_enter Try.func55, Try.ntmps55
 go_wp2
 refine wp_scope_straight ?_
 go_wp2
 go_loopw [22] (fun v22 wr => ∃ n : Nat, v22 = .int .i64 (n : Int) ∧ Aside0 (n ≤ l.length ∧ ∀ x ∈ l.take n, inR l0.length x = true) ∧ Aside0 (ClSt w wr p ((l.take n).map l23) n)) (fun v22 _ => l.length - (intOf v22).toNat)
 case atStart => exact ⟨0, rfl, ⟨Nat.zero_le _, by simp⟩, HS0⟩
 clear HS0
 obtain ⟨n, rfl, HI, HS⟩ := hrel
 by_cases k2 : (n : Int) < (l.length : Int)
 ·have k2b : decide ((n : Int) < (l.length : Int)) = true := decide_eq_true k2
  obtain ⟨ad, ea, hx0, hx1⟩ := at_T23 (Kd.C_below HR1.out HS.out.below) (n : Int) (by omega) k2
  subst ea
  obtain ⟨q, hq⟩ : ∃ q, q = rd_T23 l (n : Int) := ⟨_, rfl⟩
  rw [← hq, Int.toNat_natCast] at hx0 hx1
  have k2n : n < l.length := by omega
  rw [rd23_in l k2n] at hq
  have hqm : q ∈ l := hq ▸ List.getElem_mem k2n
  have r0 := eq_true (show (0 : Int) ≤ (n : Int) by omega)
  have r1 := eq_true k2
  have hw1 : wrap64 ((l0.length : Int) - 1) = (l0.length : Int) - 1 := by
   have := HN0.out
   unfold wrap64; omega
  have hw2 : wrap64 ((n : Int) + 1) = ((n + 1 : Nat) : Int) := by unfold wrap64; have := HL.out; omega
  have HW := Aside0.mk hw2
  have HGB := Aside0.mk (heap_alloc_new wr (.cells #[.int .i64 q.f0, .int .i64 q.f1] 23))
  have HSX := Aside0.mk (HS.out.belowN (below_alloc (Below.refl _ _) (.cells #[.int .i64 q.f0, .int .i64 q.f1] 23)))
  have HIX := HI.out
  have HQM := Aside0.mk hqm
  by_cases k3 : ((0 ≤ q.f0 ∧ q.f0 ≤ (l0.length : Int) - 1) ∧ (0 ≤ q.f1 ∧ q.f1 ≤ (l0.length : Int) - 1))
  ·have b1 : decide (0 ≤ q.f0) = true := decide_eq_true k3.1.1
   have b2 : decide (q.f0 ≤ (l0.length : Int) - 1) = true := decide_eq_true k3.1.2
   have b3 : decide (0 ≤ q.f1) = true := decide_eq_true k3.2.1
   have b4 : decide (q.f1 ≤ (l0.length : Int) - 1) = true := decide_eq_true k3.2.2
   have hI : I64 q.f0 ∧ I64 q.f1 := by have := HN0.out; exact ⟨⟨by omega, by omega⟩, ⟨by omega, by omega⟩⟩
   obtain ⟨w4, hst, hS4⟩ := HSX.out.put (by have := HL.out; omega) hI.1 hI.2
   have HS4 := Aside0.mk (show ClSt w w4 p ((l.take (n + 1)).map l23) (n + 1) from by
    rw [take_next l k2n, List.map_append, ← hq]
    exact hS4)
   have HI4 := Aside0.mk (show n + 1 ≤ l.length ∧ ∀ x ∈ l.take (n + 1), inR l0.length x = true from ⟨k2n, fun x hx => by
    rw [take_next l k2n, ← hq] at hx
    rcases List.mem_append.1 hx with hx | hx
    ·exact HIX.2 x hx
    ·simp at hx
     subst hx
     unfold inR
     rw [decide_eq_true k3.1, decide_eq_true k3.2]; rfl⟩)
   have HM := Aside0.mk (show l.length - (n + 1) < l.length - n by omega)
   clear hq hqm HIX k3 hI hS4 HI HS k2 k2n
   go_wp2
   go_roundw
   case rel => exact ⟨n + 1, by rw [HW.out], HI4, HS4⟩
   rw [HW.out]; simpa [intOf] using HM.out
  have hno : inR l0.length q = false := by
   unfold inR
   rw [Bool.and_eq_false_iff]
   by_cases h1 : (0 ≤ q.f0 ∧ q.f0 ≤ (l0.length : Int) - 1)
   ·exact .inr (decide_eq_false (fun h2 => k3 ⟨h1, h2⟩))
   ·exact .inl (decide_eq_false h1)
  have HF := Aside0.mk (show R = false by rw [HRR.out]; exact closed_no hqm hno)
  by_cases k5 : 0 ≤ q.f0 ∧ q.f0 ≤ (l0.length : Int) - 1
  rotate_left
  ·by_cases k6 : 0 ≤ q.f0
   rotate_left
   ·have b1 : decide (0 ≤ q.f0) = false := decide_eq_false k6
    clear hq hqm HIX k3 k5 k6 hno k2 k2n
    go_wp2
    refine noGoto_ret ?_
    go_big_open
    go_ret
    exact ⟨by rw [HF.out]; rfl, HSX.out.below⟩
   have b1 : decide (0 ≤ q.f0) = true := decide_eq_true k6
   have b2 : decide (q.f0 ≤ (l0.length : Int) - 1) = false := decide_eq_false (fun h => k5 ⟨k6, h⟩)
   clear hq hqm HIX k3 k5 k6 hno k2 k2n
   go_wp2
   refine noGoto_ret ?_
   go_big_open
   go_ret
   exact ⟨by rw [HF.out]; rfl, HSX.out.below⟩
  have b1 : decide (0 ≤ q.f0) = true := decide_eq_true k5.1
  have b2 : decide (q.f0 ≤ (l0.length : Int) - 1) = true := decide_eq_true k5.2
  by_cases k6 : 0 ≤ q.f1
  rotate_left
  ·have b3 : decide (0 ≤ q.f1) = false := decide_eq_false k6
   clear hq hqm HIX k3 k5 k6 hno k2 k2n
   go_wp2
   refine noGoto_ret ?_
   go_big_open
   go_ret
   exact ⟨by rw [HF.out]; rfl, HSX.out.below⟩
  have b3 : decide (0 ≤ q.f1) = true := decide_eq_true k6
  have b4 : decide (q.f1 ≤ (l0.length : Int) - 1) = false := decide_eq_false (fun h => k3 ⟨k5, k6, h⟩)
  clear hq hqm HIX k3 k5 k6 hno k2 k2n
  go_wp2
  refine noGoto_ret ?_
  go_big_open
  go_ret
  exact ⟨by rw [HF.out]; rfl, HSX.out.below⟩
 have k2b : decide ((n : Int) < (l.length : Int)) = false := decide_eq_false k2
 obtain rfl : n = l.length := by have := HI.out.1; omega
 have HA := Aside0.mk (show ∀ x ∈ l, inR l0.length x = true by have := HI.out.2; rwa [List.take_length] at this)
 have HS0 := Aside0.mk (show ClSt w wr p (l.map l23) l.length by have := HS.out; rwa [List.take_length] at this)
 clear HI HS k2
 obtain ⟨wa, hwa⟩ : ∃ wa, wa = wr := ⟨_, rfl⟩
 subst hwa
 go_wp2
 refine wp_label ?_
 go_wp2
 go_loopw [7, 47] (fun v7 v47 wr => ∃ j : Nat, v7 = .map (some (w.heap.size + 1)) ∧ v47 = .int .i64 (j : Int) ∧ Aside0 (j ≤ l.length ∧ ∀ x ∈ l.take j, needB l0 (l.map l23) x = true) ∧ Aside0 (ClSt w wr p (l.map l23) l.length)) (fun _ v47 _ => l.length - (intOf v47).toNat)
 case atStart => exact ⟨0, rfl, rfl, ⟨Nat.zero_le _, by simp⟩, HS0⟩
 clear HS0
 obtain ⟨j, rfl, rfl, HI, HS⟩ := hrel
 have hpo := HP.out
 by_cases k3 : (j : Int) < (l.length : Int)
 case neg =>
  have k3b : decide ((j : Int) < (l.length : Int)) = false := decide_eq_false k3
  obtain rfl : j = l.length := by have := HI.out.1; omega
  have hb0 : wr.cell? ⟨w.heap.size, 0, none⟩ = some (.int .i64 p.f0) := (blk_cell HS.out.box 0).trans rfl
  have hb1 : wr.cell? ⟨w.heap.size, 1, none⟩ = some (.int .i64 p.f1) := (blk_cell HS.out.box 1).trans rfl
  obtain ⟨m, hm, hmap⟩ := HS.out.map
  have hlk := inSet_look hmap hpo.1 hpo.2
  have HF := Aside0.mk (show R = decide ([p.f0, p.f1] ∈ l.map l23) from by
   have h2 := HI.out.2
   rw [List.take_length] at h2
   rw [HRR.out]
   unfold closedB
   rw [decide_eq_true HL.out, List.all_eq_true.2 HA.out, List.all_eq_true.2 h2]
   rfl)
  obtain ⟨R', hR'⟩ : ∃ b, b = decide ([p.f0, p.f1] ∈ l.map l23) := ⟨_, rfl⟩
  rw [← hR'] at hlk HF
  clear k3 hm hmap hR'
  go_wp2
  refine noGoto_ret ?_
  go_big_open
  go_ret
  exact ⟨by rw [HF.out]; rfl, HS.out.below⟩
 have k3b : decide ((j : Int) < (l.length : Int)) = true := decide_eq_true k3
 obtain ⟨ad, ea, hx0, hx1⟩ := at_T23 (Kd.C_below HR1.out HS.out.below) (j : Int) (by omega) k3
 subst ea
 obtain ⟨q, hq⟩ : ∃ q, q = rd_T23 l (j : Int) := ⟨_, rfl⟩
 rw [← hq, Int.toNat_natCast] at hx0 hx1
 have k3n : j < l.length := by omega
 rw [rd23_in l k3n] at hq
 have hqm : q ∈ l := hq ▸ List.getElem_mem k3n
 have r0 := eq_true (show (0 : Int) ≤ (j : Int) by omega)
 have r1 := eq_true k3
 have hw2 : wrap64 ((j : Int) + 1) = ((j + 1 : Nat) : Int) := by unfold wrap64; have := HL.out; omega
 have HW := Aside0.mk hw2
 have hin := HA.out q hqm
 unfold inR at hin
 rw [Bool.and_eq_true, decide_eq_true_eq, decide_eq_true_eq] at hin
 have HB := Aside0.mk (show (0 ≤ q.f0 ∧ q.f0 < l0.length) ∧ (0 ≤ q.f1 ∧ q.f1 < l0.length) by omega)
 have HSX := Aside0.mk (HS.out.belowN (below_alloc (Below.refl _ _) (.cells #[.int .i64 q.f0, .int .i64 q.f1] 23)))
 have HNC := Aside0.mk (needs_fn.calls A0 c0 l0 q.f0 q.f1 _ (Kd.C_below HR0.out HSX.out.below) HB.out.1 HB.out.2)
 obtain ⟨nd, hnd⟩ : ∃ nd, nd = needsF (rd_T39 l0 q.f0) (rd_T39 l0 q.f1) := ⟨_, rfl⟩
 rw [← hnd] at HNC
 have HQM := Aside0.mk hqm
 cases nd with
 | none =>
  have HF := Aside0.mk (show R = false by
   rw [HRR.out]
   refine closed_no2 hqm ?_
   unfold needB
   rw [← hnd])
  clear hq hqm hin hnd k3 k3n
  go_wp2_with (go_at_call 51; go_must (
   (with_reducible refine HNC.out.mono ?_); rintro e w1 ⟨hB1, vm, rfl, hN⟩;
   have HS1 := Aside0.mk (HSX.out.belowN hB1);
   have hb0 : w1.cell? ⟨w.heap.size, 0, none⟩ = some (.int .i64 p.f0) := (blk_cell HS1.out.box 0).trans rfl;
   have hb1 : w1.cell? ⟨w.heap.size, 1, none⟩ = some (.int .i64 p.f1) := (blk_cell HS1.out.box 1).trans rfl;
   have hlk := Maps.look_nil (w := w1) false law23 Try.underlying104 (zb_run w1) (key23 hpo.1 hpo.2);
   clear hB1 hN))
  refine noGoto_ret ?_
  go_big_open
  go_ret
  exact ⟨by rw [HF.out]; rfl, HS1.out.below⟩
 | some m =>
  have HND := Aside0.mk hnd
  have hrn := fun (u : World) => run_range_nilMap (P := Try.prog) u 77 5 23 Try.underlying77
  have hqe := hq
  clear hqm hin hnd k3
  have hX : ∀ a : Int, (0 ≤ a ∧ a < l0.length) → I64 (rd_T39 l0 a).f1 ∧ I64 (rd_T39 l0 a).f2 := fun a ha => by
   have hlt : a.toNat < l0.length := by omega
   have : rd_T39 l0 a ∈ l0 := by
    unfold rd_T39
    rw [List.getD_eq_getElem?_getD, List.getElem?_eq_getElem hlt, Option.getD_some]
    exact List.getElem_mem hlt
   exact (HAL.out _ this).2
  have hnx' : ∀ (hm : needL m (l.map l23) = true), j + 1 ≤ l.length ∧ ∀ x ∈ l.take (j + 1), needB l0 (l.map l23) x = true := fun hm => ⟨k3n, fun x hx => by
   rw [take_next l k3n, ← hqe] at hx
   rcases List.mem_append.1 hx with hx | hx
   ·exact HI.out.2 x hx
   ·simp at hx
    subst hx
    unfold needB
    rw [← HND.out]
    exact hm⟩
  have HM := Aside0.mk (show l.length - (j + 1) < l.length - j by omega)
  cases m with
  | none =>
   have HG := Aside0.mk (hnx' rfl)
   clear hnx' hX hq hqe k3n
   go_wp2_with (go_at_call 51; go_must (
    (with_reducible refine HNC.out.mono ?_); rintro e w1 ⟨hB1, vm, rfl, hN⟩;
    obtain rfl : vm = .map none := hN;
    have HS1 := Aside0.mk ((HSX.out.belowN hB1).belowN (below_alloc (Below.refl _ _) (.mapIter none 0 #[] 0)));
    have hnx := fun (ty : TypeId) => run_next_nilMap (P := Try.prog) w1 ty 0 0 #[];
    clear hB1))
   refine wp_loop_rounds 1 ?_
   rw [rounds_succ]
   go_wp2
   go_roundw
   case rel => exact ⟨j + 1, rfl, by rw [HW.out], HG, HS1⟩
   rw [HW.out]; simpa [intOf] using HM.out
  | some pq =>
   obtain ⟨pa, pb⟩ := pq
   have ha := needs_two (rd_T39 l0 q.f0) (rd_T39 l0 q.f1) 97 pa (by rw [← HND.out]; rfl)
   have hb := needs_two (rd_T39 l0 q.f0) (rd_T39 l0 q.f1) 98 pb (by rw [← HND.out]; rfl)
   have hIa := needs_I64 (rd_T39 l0 q.f0) (rd_T39 l0 q.f1) (hX _ HB.out.1) (hX _ HB.out.2) 97 pa (by rw [← HND.out]; rfl)
   have hIb := needs_I64 (rd_T39 l0 q.f0) (rd_T39 l0 q.f1) (hX _ HB.out.1) (hX _ HB.out.2) 98 pb (by rw [← HND.out]; rfl)
   have HV := Aside0.mk (show ∀ v : Value, (v = keyL pa ∨ v = keyL pb) → ∃ q0 q1, v = .agg #[.int .i64 q0, .int .i64 q1] ∧ I64 q0 ∧ I64 q1 ∧ ([q0, q1] = pa ∨ [q0, q1] = pb) from fun v hv => by
    rcases hv with rfl | rfl
    ·exact ⟨(s23 pa).f0, (s23 pa).f1, by rw [ha]; rfl, hIa.1, hIa.2, .inl ha.symm⟩
    ·exact ⟨(s23 pb).f0, (s23 pb).f1, by rw [hb]; rfl, hIb.1, hIb.2, .inr hb.symm⟩)
   have HNO := Aside0.mk (show ∀ q', (q' = pa ∨ q' = pb) → q' ∉ l.map l23 → R = false from fun q' h1 h2 => by
    rw [HRR.out]
    refine closed_no2 HQM.out ?_
    unfold needB
    rw [← HND.out]
    exact needL_no h1 h2)
   have HNX := Aside0.mk hnx'
   clear hnx' hX hq hqe k3n ha hb hIa hIb
   go_wp2_with (go_at_call 51; go_must (
    (with_reducible refine HNC.out.mono ?_); rintro e w1 ⟨hB1, vm, rfl, hN⟩;
    obtain ⟨b, rfl, hbb, hmap⟩ := hN;
    have HS1 := Aside0.mk (HSX.out.belowN hB1);
    obtain ⟨es, clock, hes, hst, hval, hvA, hvB⟩ := needs_entries hmap;
    have hrg := run_range_map (P := Try.prog) w1 77 5 23 b es clock Try.underlying77 hes;
    have HES := Aside0.mk hes;
    have HST := Aside0.mk hst;
    have HVL := Aside0.mk hval;
    have HVA := Aside0.mk hvA;
    have HVB := Aside0.mk hvB;
    clear hB1 hmap hes hst hval hvA hvB hbb))
   clear hrg
   go_loopw [7] (fun v7 wr => ∃ seen, v7 = .map (some (w.heap.size + 1)) ∧ Aside0 (ClIt wr w1.heap.size b es clock seen) ∧ Aside0 (ClSt w wr p (l.map l23) l.length) ∧ Aside0 (∀ x ∈ es.toList, seen.contains x.born = true → ∃ q, x.val = keyL q ∧ q ∈ l.map l23)) (fun _ wr => (leftOf es (wr.iterSeen w1.heap.size)).size)
   case atStart => exact ⟨#[], rfl, ⟨heap_alloc_new w1 _, (heap_alloc_old w1 _ (blk_lt HES.out)).trans HES.out⟩, ⟨HS1.out.belowN (below_alloc (Below.refl _ _) _)⟩, ⟨fun x _ h => by simp at h⟩⟩
   obtain ⟨seen, rfl, HIT, HS2, HSN⟩ := hrel
   have hz1 : w.heap.size + 1 < w1.heap.size := HS1.out.lt
   rcases run_next_at (P := Try.prog) wr 0 w1.heap.size b clock clock seen es clock HIT.out.it HIT.out.map HST.out.1 (Nat.le_refl _) with ⟨h0, hrun⟩ | ⟨e, he, w2, hal, hrun⟩
   ·have hnx : ∀ ty, (Instr.next (.pointer (some ⟨w1.heap.size, 0, none⟩)) false ty).run Try.prog wr = _ := fun _ => hrun
    have HG := Aside0.mk (HNX.out (by
     have hall := all_seen es seen h0
     have key : ∀ p', (∃ x ∈ es.toList, x.val = keyL p') → p' ∈ l.map l23 := fun p' ⟨x, hx, hxv⟩ => by
      obtain ⟨q', h1, h2⟩ := HSN.out x hx (hall x hx)
      rw [hxv] at h1
      rw [keyL_inj h1]; exact h2
     unfold needL
     simp only []
     rw [decide_eq_true (key _ HVA.out), decide_eq_true (key _ HVB.out)]
     rfl))
    clear h0 hrun hz1
    go_wp2
    go_roundw
    case rel => exact ⟨j + 1, rfl, by rw [HW.out], HG, HS2⟩
    rw [HW.out]; simpa [intOf] using HM.out
   obtain ⟨hem, hes⟩ := mem_left he
   obtain ⟨q0, q1, hev, i0, i1, hpq⟩ := HV.out e.val (HVL.out e hem)
   rw [hev] at hrun
   obtain ⟨W2, hW2⟩ : ∃ W2, W2 = setBlock w2 w1.heap.size (.mapIter (some b) clock (seen.push e.born) clock) := ⟨_, rfl⟩
   rw [← hW2] at hrun
   have hnx : ∀ ty, (Instr.next (.pointer (some ⟨w1.heap.size, 0, none⟩)) false ty).run Try.prog wr = _ := fun _ => hrun
   have hb2 : b ≠ w1.heap.size := by
    have := blk_lt HES.out
    omega
   have hS2 : ClSt w w2 p (l.map l23) l.length := by
    rcases hal with rfl | rfl
    ·exact HS2.out
    ·exact HS2.out.belowN (below_drew1 (Below.refl _ _))
   have hI2 : ClIt w2 w1.heap.size b es clock seen := by
    rcases hal with rfl | rfl
    ·exact HIT.out
    ·exact HIT.out.below (below_drew1 (Below.refl _ _))
   have hS3 : ClSt w W2 p (l.map l23) l.length := by rw [hW2]; exact hS2.turned hz1 _
   have hit3 : W2.heap[w1.heap.size]? = some (.mapIter (some b) clock (seen.push e.born) clock) := by
    rw [hW2]
    have := blk_lt hI2.it
    simp [setBlock, this]
   have hm3 : W2.heap[b]? = some (.map es clock) := by rw [hW2, heap_setBlock_ne _ _ _ hb2]; exact hI2.map
   have hen := run_entry_at (P := Try.prog) W2 w1.heap.size b clock seen es clock e hit3 hm3 hem HST.out.2.1
   rw [hev] at hen
   have HMS := Aside0.mk (left_shrinks es seen e he)
   have hS4 := hS3.belowN (below_alloc (Below.refl _ _) (.cells #[.int .i64 q0, .int .i64 q1] 23))
   have hI4 := (show ClIt W2 w1.heap.size b es clock (seen.push e.born) from ⟨hit3, hm3⟩).below (below_alloc (Below.refl _ _) (.cells #[.int .i64 q0, .int .i64 q1] 23))
   obtain ⟨mm, hmm1, hmm2⟩ := hS4.map
   have hlk := inSet_look hmm2 i0 i1
   have HS4 := Aside0.mk hS4
   have HI4 := Aside0.mk hI4
   have HIS := Aside0.mk (iterSeen_of HIT.out.it)
   have hpo := HP.out
   by_cases hmem : [q0, q1] ∈ l.map l23
   ·rw [decide_eq_true hmem] at hlk
    have HSN4 := Aside0.mk (show ∀ x ∈ es.toList, (seen.push e.born).contains x.born = true → ∃ q, x.val = keyL q ∧ q ∈ l.map l23 from fun x hx hc => by
     rw [contains_push, Bool.or_eq_true] at hc
     rcases hc with hc | hc
     ·exact HSN.out x hx hc
     ·have : x = e := born_inj HST.out.2.1 hx hem (beq_iff_eq.1 hc)
      subst this
      exact ⟨[q0, q1], hev, hmem⟩)
    clear hal hrun he hem hes hev hW2 hb2 hS2 hI2 hS3 hit3 hm3 hS4 hI4 hmm1 hmm2 hmem hpq i0 i1 hz1 hpo
    go_wp2
    go_roundw
    case rel => exact ⟨seen.push e.born, rfl, HI4, HS4, HSN4⟩
    rw [HIS.out, iterSeen_of HI4.out.it]; exact HMS.out
   rw [decide_eq_false hmem] at hlk
   have HF := Aside0.mk (HNO.out _ hpq hmem)
   obtain ⟨W4, hW4⟩ : ∃ W4, W4 = W2.alloc (.cells #[.int .i64 q0, .int .i64 q1] 23) := ⟨_, rfl⟩
   have hb0 : (W2.alloc (.cells #[.int .i64 q0, .int .i64 q1] 23)).cell? ⟨w.heap.size, 0, none⟩ = some (.int .i64 p.f0) := (blk_cell HS4.out.box 0).trans rfl
   have hb1 : (W2.alloc (.cells #[.int .i64 q0, .int .i64 q1] 23)).cell? ⟨w.heap.size, 1, none⟩ = some (.int .i64 p.f1) := (blk_cell HS4.out.box 1).trans rfl
   have hln := Maps.look_nil (w := W2.alloc (.cells #[.int .i64 q0, .int .i64 q1] 23)) false law23 Try.underlying104 (zb_run _) (key23 hpo.1 hpo.2)
   clear hal hrun he hem hes hev hW2 hb2 hS2 hI2 hS3 hit3 hm3 hS4 hI4 hmm1 hmm2 hmem hpq i0 i1 hz1 hpo hW4
   go_wp2
   refine noGoto_ret ?_
   go_big_open
   go_ret
   exact ⟨by rw [HF.out]; rfl, HS4.out.below⟩
end Go.Proofs.Ytnfmeafiaipplaa.S

namespace Go.Proofs.Ytnfmeafiaipplaa.S
open Go.Proofs.Ytnfmeafiaipplaa.Lib
open Go.Maps (Keyed)
open Go.RowKit Go.Proofs.YtnfmeafiaipplaaW.PrintWords Go.Proofs.YtnfmeafiaipplaaW.PrintLast Go.Proofs.YtnfmeafiaipplaaW.PrintMore
attribute [local go_sem] max2_int min2_int max_two min_two max_three min_three max_four min_four
set_option linter.unusedVariables false
set_option linter.unusedSimpArgs false

def loops_isClosed.f (l0 : List S39) (l1 : List S23) (a2_0 a2_1 : Int) : Option Bool := if l0.all t39B = true ∧ l0.length ≤ 1000 ∧ i64B a2_0 = true ∧ i64B a2_1 = true then some (closedB l0 l1 ⟨a2_0, a2_1⟩) else none
theorem loops_isClosed.calls (A0 : Option Addr) (c0 : Nat) (l0 : List S39) (A1 : Option Addr) (c1 : Nat) (l1 : List S23) (a2_0 a2_1 : Int) (r : Bool) (w : World) (hr0 : Kd.C k39 w A0 l0.length l0) (hc0 : l0.length ≤ c0) (hr1 : Kd.C k23 w A1 l1.length l1) (hc1 : l1.length ≤ c1) (h : loops_isClosed.f l0 l1 a2_0 a2_1 = some r) :
  Calls Try.prog 55 #[.slice A0 l0.length c0, .slice A1 l1.length c1, .agg #[.int .i64 a2_0, .int .i64 a2_1]] w fun e w' => e = .returned (.bool r) ∧ Below w.heap.size w w' := by
 unfold loops_isClosed.f at h
 split at h
 case isFalse => cases h
 rename_i hh
 obtain ⟨h1, h2, h3, h4⟩ := hh
 obtain rfl := Option.some.inj h
 exact isClosed_fn.calls A0 c0 l0 (t39B_all h1) h2 A1 c1 l1 ⟨a2_0, a2_1⟩ ⟨i64B_I64 h3, i64B_I64 h4⟩ w hr0 hr1

def rfGo (t : List S39) (path : ByteArray) : Nat → Nat → S23 → Option Bool
 | 0, _, _ => none
 | f + 1, i, p =>
  if (0 ≤ p.f0 ∧ p.f0 < t.length) ∧ (0 ≤ p.f1 ∧ p.f1 < t.length) then
   (if h : i < path.data.size then
    match needGet ((needsF (rd_T39 t p.f0) (rd_T39 t p.f1)).getD none) (path.data[i].toNat : Int) with
    | none => some false
    | some q => rfGo t path f (i + 1) (s23 q)
   else some (needsF (rd_T39 t p.f0) (rd_T39 t p.f1)).isNone)
  else none
theorem byte_rng (b : UInt8) : (0 : Int) ≤ (b.toNat : Int) ∧ (b.toNat : Int) ≤ 255 := by
 have := b.toNat_lt
 omega
theorem needs_lookAny {m : Option (List Int × List Int)} {base : Nat} {W : World} {v : Value} (h : NeedsIs m base W v) {c : Int} (hc : 0 ≤ c ∧ c ≤ 255) :
  (Instr.lookup 77 v (.int .u8 c) true).run Try.prog W = .ok (.tuple #[(needGet m c).elim (.agg #[.int .i64 0, .int .i64 0]) keyL, .bool (needGet m c).isSome]) W := by
 have hk := key5 c hc.1 hc.2
 cases m with
 | none =>
  have h' : v = .map none := h
  subst h'
  have := Maps.look_nil (w := W) true law5 Try.underlying77 (z23_run W) hk
  simpa [needGet] using this
 | some p =>
  obtain ⟨pa, pb⟩ := p
  obtain ⟨b, rfl, hb, hm⟩ := h
  have := hm.lookOk law5 Try.underlying77 (z23_run W) hk
  rw [this]
  by_cases h1 : c = 97
  ·simp [encU, two8, needGet, h1]
  by_cases h2 : c = 98 <;> simp [encU, two8, needGet, h1, h2]
/-- What holds in memory all along. -/
structure RfSt (w wr : World) (p : S23) (r : Nat) (path : ByteArray) : Prop where
 below : Below w.heap.size w wr
 box : wr.heap[w.heap.size]? = some (.cells #[.int .i64 p.f0, .int .i64 p.f1] 23 (0, 0))
 row : ∃ cap fr, wr.heap[r]? = some (.cells (bytesRow path cap) 5 fr)
 rlt : w.heap.size < r
theorem RfSt.belowN {w wr wr' : World} {p : S23} {r : Nat} {path : ByteArray} (h : RfSt w wr p r path) (hB : Below wr.heap.size wr wr') : RfSt w wr' p r path := by
 obtain ⟨h1, h2, ⟨c, fr, h3⟩, h4⟩ := h
 exact ⟨below_then h1 h1.size hB, blk_below h2 hB, ⟨c, fr, blk_below h3 hB⟩, h4⟩
theorem RfSt.at {w wr : World} {p : S23} {r : Nat} {path : ByteArray} (h : RfSt w wr p r path) {i : Nat} (hi : i < path.data.size) : wr.cell? ⟨r, i, none⟩ = some (.int .u8 (path.data[i].toNat : Int)) := by
 obtain ⟨h1, h2, ⟨c, fr, h3⟩, h4⟩ := h
 have : wr.cell? ⟨r, i, none⟩ = (bytesRow path c)[i]? := by simp [World.cell?, h3]
 rw [this, bytesRow_at _ _ _ hi]
theorem RfSt.put {w wr : World} {p : S23} {r : Nat} {path : ByteArray} (h : RfSt w wr p r path) (a b : Int) : RfSt w ((wr.setCell ⟨w.heap.size, 0, none⟩ (.int .i64 a)).setCell ⟨w.heap.size, 1, none⟩ (.int .i64 b)) ⟨a, b⟩ r path := by
 obtain ⟨h1, h2, ⟨c, fr, h3⟩, h4⟩ := h
 refine ⟨below_set (below_set h1 (Nat.le_refl _)) (Nat.le_refl _), ?_, ⟨c, fr, ?_⟩, h4⟩
 ·simpa using blk_set (blk_set h2 0 _) 1 _
 rw [Below.heap_setCell _ _ _ _ (by show r ≠ w.heap.size; omega), Below.heap_setCell _ _ _ _ (by show r ≠ w.heap.size; omega)]
 exact h3
set_option maxHeartbeats 4000000 in
set_option maxRecDepth 100000 in
theorem refutes_fn.calls (A0 : Option Addr) (c0 : Nat) (l0 : List S39) (hall : allI l0) (path : ByteArray) (hpl : path.size ≤ 1000000) (p : S23) (r : Bool) (w : World) (hr0 : Kd.C k39 w A0 l0.length l0) (h : rfGo l0 path (path.size + 1) 0 p = some r) :
  Calls Try.prog 56 #[.slice A0 l0.length c0, .string path, .agg #[.int .i64 p.f0, .int .i64 p.f1]] w fun e w' => e = .returned (.bool r) ∧ Below w.heap.size w w' := by
 have hcv := run_bytes_of_string (P := Try.prog) (w.alloc (.cells #[.int .i64 p.f0, .int .i64 p.f1] 23)) 9 102 5 path Try.underlying9 Try.underlying102 Try.underlying5
 obtain ⟨cap, hcap⟩ : ∃ cap, cap = grownCap (w.alloc (.cells #[.int .i64 p.f0, .int .i64 p.f1] 23)) path.size 0 5 := ⟨_, rfl⟩
 rw [← hcap] at hcv
 simp only [World.size_alloc] at hcv
 have HS0 := Aside0.mk (show RfSt w ((w.alloc (.cells #[.int .i64 p.f0, .int .i64 p.f1] 23)).drew.alloc (.cells (bytesRow path cap) 5 ((bytesRow path cap).size, (bytesRow path cap).size + 1))) p (w.heap.size + 1) path from by
  refine ⟨below_alloc (below_drew1 (below_alloc (Below.refl _ _) _)) _, ?_, ⟨cap, ((bytesRow path cap).size, (bytesRow path cap).size + 1), ?_⟩, by omega⟩
  ·exact blk_below (heap_alloc_new w _) (below_alloc (below_drew1 (Below.refl _ _)) _)
  ·have := heap_alloc_new ((w.alloc (.cells #[.int .i64 p.f0, .int .i64 p.f1] 23)).drew) (.cells (bytesRow path cap) 5 ((bytesRow path cap).size, (bytesRow path cap).size + 1))
   simpa using this)
 have H := Aside0.mk h
 have HR0 := Aside0.mk hr0
 have HAL := Aside0.mk hall
 have HPL := Aside0.mk hpl
 clear h hr0 hall hcap hpl
 go_enter Try.func56, Try.ntmps56
 go_wp2
 go_loopw [18] (fun v18 wr => ∃ (i : Nat) (p' : S23), v18 = .int .i64 (i : Int) ∧ Aside0 (i ≤ path.size ∧ rfGo l0 path (path.size + 1 - i) i p' = some r) ∧ Aside0 (RfSt w wr p' (w.heap.size + 1) path)) (fun v18 _ => path.size - (intOf v18).toNat)
 case atStart => exact ⟨0, p, rfl, ⟨Nat.zero_le _, H.out⟩, HS0⟩
 clear HS0
 obtain ⟨i, p', rfl, HI, HS⟩ := hrel
 obtain ⟨hi, hg⟩ := HI.out
 have e1 : path.size + 1 - i = (path.size - i) + 1 := by omega
 rw [e1] at hg
 unfold rfGo at hg
 split at hg
 case isFalse => cases hg
 rename_i hin
 have hb0 : wr.cell? ⟨w.heap.size, 0, none⟩ = some (.int .i64 p'.f0) := (blk_cell HS.out.box 0).trans rfl
 have hb1 : wr.cell? ⟨w.heap.size, 1, none⟩ = some (.int .i64 p'.f1) := (blk_cell HS.out.box 1).trans rfl
 have HB := Aside0.mk hin
 have HNC := Aside0.mk (needs_fn.calls A0 c0 l0 p'.f0 p'.f1 wr (Kd.C_below HR0.out HS.out.below) HB.out.1 HB.out.2)
 obtain ⟨nd, hnd⟩ : ∃ nd, nd = needsF (rd_T39 l0 p'.f0) (rd_T39 l0 p'.f1) := ⟨_, rfl⟩
 rw [← hnd] at HNC hg
 by_cases k2 : i < path.size
 rotate_left
 ·have k2b : decide ((i : Int) < (path.size : Int)) = false := decide_eq_false (by omega)
  have k2c : decide (i < path.size) = false := decide_eq_false k2
  rw [dif_neg (show ¬ i < path.data.size from k2)] at hg
  have HF := Aside0.mk (Option.some.inj hg)
  obtain ⟨isS, hisS⟩ : ∃ b, b = nd.isSome := ⟨_, rfl⟩
  have HIS := Aside0.mk (show r = !isS by rw [← HF.out, hisS]; cases nd <;> rfl)
  have HNC2 := Aside0.mk (show Calls Try.prog 51 #[.slice A0 l0.length c0, .agg #[.int .i64 p'.f0, .int .i64 p'.f1]] wr (fun e w' => Below wr.heap.size wr w' ∧ ∃ v, e = .returned (.tuple #[v, .bool isS]) ∧ NeedsIs (nd.getD none) wr.heap.size w' v) from by rw [hisS]; exact HNC.out)
  clear hg hnd hi hin e1 HI k2 HF hisS
  cases isS with
  | false =>
   go_wp2_with (go_at_call 51; go_must (
    (with_reducible refine HNC2.out.mono ?_); rintro e w1 ⟨hB1, vm, rfl, hN⟩;
    have HS1 := Aside0.mk (HS.out.belowN hB1);
    clear hB1 hN))
   go_ret
   exact ⟨by rw [HIS.out]; rfl, HS1.out.below⟩
  | true =>
   go_wp2_with (go_at_call 51; go_must (
    (with_reducible refine HNC2.out.mono ?_); rintro e w1 ⟨hB1, vm, rfl, hN⟩;
    have HS1 := Aside0.mk (HS.out.belowN hB1);
    clear hB1 hN))
   go_ret
   exact ⟨by rw [HIS.out]; rfl, HS1.out.below⟩
 have k2d : i < path.data.size := k2
 rw [dif_pos k2d] at hg
 have k2b : decide ((i : Int) < (path.size : Int)) = true := decide_eq_true (by omega)
 have hx := HS.out.at k2d
 have hc0 : (0 : Int) ≤ (path.data[i].toNat : Int) ∧ (path.data[i].toNat : Int) ≤ 255 := byte_rng _
 obtain ⟨c, hc⟩ : ∃ c, c = (path.data[i].toNat : Int) := ⟨_, rfl⟩
 rw [← hc] at hx hg hc0
 have r0 := eq_true (show (0 : Int) ≤ (i : Int) by omega)
 have r1 := eq_true (show (i : Int) < (path.size : Int) by omega)
 have hw2 : wrap64 ((i : Int) + 1) = ((i + 1 : Nat) : Int) := by unfold wrap64; have := HPL.out; omega
 have HW := Aside0.mk hw2
 have HC := Aside0.mk hc0
 have HM := Aside0.mk (Nat.sub_lt_sub_left k2 (Nat.lt_succ_self i))
 have HK := Aside0.mk k2
 obtain ⟨m, hm⟩ : ∃ m, m = nd.getD none := ⟨_, rfl⟩
 rw [← hm] at hg
 have HMD := Aside0.mk (show m = (needsF (rd_T39 l0 p'.f0) (rd_T39 l0 p'.f1)).getD none by rw [hm, hnd])
 have HM0 := Aside0.mk hm
 have HD := Aside0.mk hnd
 obtain ⟨isS, hisS⟩ : ∃ b, b = nd.isSome := ⟨_, rfl⟩
 cases hq : needGet m c with
 | none =>
  rw [hq] at hg
  have HF := Aside0.mk (Option.some.inj hg)
  have HQ := Aside0.mk hq
  clear hg hq hc hnd hm k2 k2d hi hin e1 hw2 hc0 HI
  go_wp2_with (go_at_call 51; go_must (
   (with_reducible refine HNC.out.mono ?_); rintro e w1 ⟨hB1, vm, rfl, hN⟩;
   have HS1 := Aside0.mk ((HS.out.belowN hB1).belowN (below_alloc (Below.refl _ _) (.cells #[.int .i64 0, .int .i64 0] 23)));
   have hlk := needs_lookAny (m := m) (HM0.out ▸ hN) HC.out;
   rw [HQ.out] at hlk;
   clear hB1 hN))
  go_ret
  exact ⟨by rw [← HF.out]; rfl, HS1.out.below⟩
 | some q =>
  rw [hq] at hg
  have hX : ∀ a : Int, (0 ≤ a ∧ a < l0.length) → I64 (rd_T39 l0 a).f1 ∧ I64 (rd_T39 l0 a).f2 := fun a ha => by
   have hlt : a.toNat < l0.length := by omega
   have : rd_T39 l0 a ∈ l0 := by
    unfold rd_T39
    rw [List.getD_eq_getElem?_getD, List.getElem?_eq_getElem hlt, Option.getD_some]
    exact List.getElem_mem hlt
   exact (HAL.out _ this).2
  have hq2 := needs_two (rd_T39 l0 p'.f0) (rd_T39 l0 p'.f1) c q (by rw [← HMD.out]; exact hq)
  obtain ⟨q0, q1, hqq⟩ : ∃ q0 q1, q = [q0, q1] := ⟨_, _, hq2⟩
  subst hqq
  have HG := Aside0.mk (show i + 1 ≤ path.size ∧ rfGo l0 path (path.size + 1 - (i + 1)) (i + 1) ⟨q0, q1⟩ = some r from ⟨k2, by
   rw [Nat.add_sub_add_right]; exact hg⟩)
  have HQ := Aside0.mk hq
  clear hg hq hc hnd hm k2 k2d hi hin e1 hw2 hc0 HI hX hq2
  go_wp2_with (go_at_call 51; go_must (
   (with_reducible refine HNC.out.mono ?_); rintro e w1 ⟨hB1, vm, rfl, hN⟩;
   have hs1 := (HS.out.belowN hB1).belowN (below_alloc (Below.refl _ _) (.cells #[.int .i64 q0, .int .i64 q1] 23));
   have hf0 := blk_frozen hs1.box 0;
   have hf1 := blk_frozen hs1.box 1;
   have hd0 : (w1.alloc (.cells #[.int .i64 q0, .int .i64 q1] 23)).cell? ⟨w.heap.size, 0, none⟩ = some (.int .i64 p'.f0) := (blk_cell hs1.box 0).trans rfl;
   have hd1 : (w1.alloc (.cells #[.int .i64 q0, .int .i64 q1] 23)).cell? ⟨w.heap.size, 1, none⟩ = some (.int .i64 p'.f1) := (blk_cell hs1.box 1).trans rfl;
   have HS1 := Aside0.mk (hs1.put q0 q1);
   have hlk : (Instr.lookup 77 vm (.int .u8 c) true).run Try.prog w1 = .ok (.tuple #[.agg #[.int .i64 q0, .int .i64 q1], .bool true]) w1 := by (have hh := needs_lookAny (m := m) (HM0.out ▸ hN) HC.out; rw [HQ.out] at hh; exact hh);
   clear hB1 hN hs1))
  go_roundw
  case rel => exact ⟨i + 1, ⟨q0, q1⟩, by rw [HW.out], HG, HS1⟩
  rw [HW.out]; simpa [intOf] using HM.out

def loops_refutes.f (l0 : List S39) (a1 : ByteArray) (a2_0 a2_1 : Int) : Option Bool := if l0.all t39B = true ∧ a1.size ≤ 1000000 then rfGo l0 a1 (a1.size + 1) 0 ⟨a2_0, a2_1⟩ else none
theorem loops_refutes.calls (A0 : Option Addr) (c0 : Nat) (l0 : List S39) (a1 : ByteArray) (a2_0 a2_1 : Int) (r : Bool) (w : World) (hr0 : Kd.C k39 w A0 l0.length l0) (hc0 : l0.length ≤ c0) (h : loops_refutes.f l0 a1 a2_0 a2_1 = some r) :
  Calls Try.prog 56 #[.slice A0 l0.length c0, .string a1, .agg #[.int .i64 a2_0, .int .i64 a2_1]] w fun e w' => e = .returned (.bool r) ∧ Below w.heap.size w w' := by
 unfold loops_refutes.f at h
 split at h
 case isFalse => cases h
 rename_i hh
 exact refutes_fn.calls A0 c0 l0 (t39B_all hh.1) a1 hh.2 ⟨a2_0, a2_1⟩ r w hr0 h

def loops_Check.j0 : Nat → List (S39) → Bool → Bool → List (S23) → ByteArray → Int → Int → Option (Int)
 | 0, _, _, _, _, _, _, _ => none
 | k + 1, x0, x10, x518000, x518001, x518002, x523000, x523001 => if x518000 = true then (if x10 = true then (some 0) else (some 10)) else (if (x518001.length : Int) = 0 then ((loops_refutes.f x0 x518002 x523000 x523001).bind fun t524 => (if t524 = true then (some 0) else (some 10))) else (some 10))
def loops_Check.f (k : Nat) (l0 : List (S39)) (a1 : Int) (a2 : Int) (a3_0 : Bool) (l3_1 : List (S23)) (a3_2 : ByteArray) : Option (Int) := (loops_areNodes.f k l0 (([a1, a2] : List Int))).bind fun t521 => (if t521 = true then (if a3_2.toList = ([] : List UInt8) then ((loops_isClosed.f l0 l3_1 a1 a2).bind fun t523 => (loops_Check.j0 k l0 t523 a3_0 l3_1 a3_2 a1 a2)) else (loops_Check.j0 k l0 false a3_0 l3_1 a3_2 a1 a2)) else (some 2))
set_option maxHeartbeats 8000000 in
set_option maxRecDepth 100000 in
theorem loops_Check.calls (k : Nat) (A0 : Option Addr) (c0 : Nat) (l0 : List (S39)) (a1 : Int) (a2 : Int) (a3_0 : Bool) (A3_1 : Option Addr) (c3_1 : Nat) (l3_1 : List (S23)) (a3_2 : ByteArray) (r : Int) (w : World) (hr0 : Kd.C k39 w A0 l0.length l0) (hc0 : l0.length ≤ c0) (hr3_1 : Kd.C k23 w A3_1 l3_1.length l3_1) (hc3_1 : l3_1.length ≤ c3_1) (h : loops_Check.f k l0 a1 a2 a3_0 l3_1 a3_2 = some r) :
  Calls Try.prog 35 #[.slice A0 l0.length c0, .int .i64 a1, .int .i64 a2, .agg #[.bool a3_0, .slice A3_1 l3_1.length c3_1, .string a3_2]] w fun e w' => e = .returned (.int .i64 r) ∧ Below w.heap.size w w' := by
 have hu55 := Try.underlying55
 have hu23 := Try.underlying23
 have HR0 := Aside0.mk hr0
 have HC0 := Aside0.mk hc0
 clear hr0 hc0
 have HR3_1 := Aside0.mk hr3_1
 have HC3_1 := Aside0.mk hc3_1
 clear hr3_1 hc3_1
 have HB := Aside0.mk (Below.refl w.heap.size w)
 have H : ((loops_areNodes.f k l0 (([a1, a2] : List Int))).bind fun t521 => (if t521 = true then (if a3_2.toList = ([] : List UInt8) then ((loops_isClosed.f l0 l3_1 a1 a2).bind fun t523 => (loops_Check.j0 k l0 t523 a3_0 l3_1 a3_2 a1 a2)) else (loops_Check.j0 k l0 false a3_0 l3_1 a3_2 a1 a2)) else (some 2))) = some r := h
 clear h
 obtain ⟨y518, hy518⟩ : ∃ y_ : List Int, y_ = (([a1, a2] : List Int)) := ⟨_, rfl⟩
 replace H : ((loops_areNodes.f k l0 y518).bind fun t521 => (if t521 = true then (if a3_2.toList = ([] : List UInt8) then ((loops_isClosed.f l0 l3_1 a1 a2).bind fun t523 => (loops_Check.j0 k l0 t523 a3_0 l3_1 a3_2 a1 a2)) else (loops_Check.j0 k l0 false a3_0 l3_1 a3_2 a1 a2)) else (some 2))) = some r := by first | (rw [hy518]; with_reducible exact H) | (have H2_ := (Option.bind_some _ _).symm.trans H; rw [hy518]; with_reducible exact H2_) | (have H2_ := (Option.bind_some _ _).symm.trans H; with_reducible exact H2_) | with_reducible exact H | (rw [hy518]; exact H) | exact H
 have Ny518 := Aside0.mk hy518
 clear hy518
 replace H := Option.bind_eq_some_iff.mp H
 obtain ⟨t521, A50, H⟩ := H
 replace H : (if t521 = true then (if a3_2.toList = ([] : List UInt8) then ((loops_isClosed.f l0 l3_1 a1 a2).bind fun t523 => (loops_Check.j0 k l0 t523 a3_0 l3_1 a3_2 a1 a2)) else (loops_Check.j0 k l0 false a3_0 l3_1 a3_2 a1 a2)) else (some 2)) = some r := H
 have A5 := Aside0.mk A50
 clear A50
 by_cases c6 : t521 = true
 rotate_left
 ·replace c6 := Bool.eq_false_iff.mpr c6
  subst c6
  have H1 : (some 2) = some r := by rw [if_neg (show ¬ (false = true) by decide)] at H; exact H
  clear H
  have H := H1
  clear H1
  obtain rfl := Option.some.inj H
  go_enter Try.func35, Try.ntmps35
  go_wp2_with (first | ((with_reducible refine gate_dst (N := 7) rfl ?_); refine box_event ?hg (N := 7) ?hd (cs := #[.bool a3_0, .slice A3_1 l3_1.length c3_1, .string a3_2]) (t := 55) ?hr ?_; (case hd => rfl); (case hg => rfl); (case hr => first | (go_simp; done) | (go_simp; rfl)); intro gb517 hg w43 hbox hb; have n0_ := Aside0.mk (below_step (by repeat (first | (with_reducible first | exact HB.out | apply below_alloc | apply pw_below_drewN | apply below_drew1) | exact HB.out)) hb); have n1_ := Aside0.mk (hbox); have n2_ := Aside0.mk ((by rw [hg]; exact (below_size (by repeat (first | (with_reducible first | exact HB.out | apply below_alloc | apply pw_below_drewN | apply below_drew1) | exact HB.out))) : w.heap.size ≤ gb517)); have n3_ := Aside0.mk ((by rw [hg]; exact (below_size (by repeat (first | (with_reducible first | exact HB.out | apply below_alloc | apply pw_below_drewN | apply below_drew1) | exact HB.out))) : w.heap.size ≤ gb517)); clear HB; have HB := n0_; have BK517 := n1_; have GW517 := n2_; have GE517 := n3_; clear n0_ n1_ n2_ n3_; clear hb hbox hg) | ((with_reducible refine gate_dst (N := 14) rfl ?_); refine Kd.R_lit (Kd.int .i64) _ 3 ?hg (N := 14) ?hd (xs := ([a1, a2] : List Int)) (inner := [.int .i64 a1, .int .i64 a2]) (ok := fun _ => True) (okp := fun _ => True) ?hr ?hp (fun _ hk => hk) trivial (Below.refl _ _) (Nat.le_refl _) (by simp) ?_; (case hd => rfl); (case hg => rfl); (case hr => first | (go_simp; done) | (go_simp; rfl)); (case hp => exact (Reps.one (show Kd.M (Kd.int .i64) _ _ _ a1 [.int .i64 a1] from rfl) (Reps.one (show Kd.M (Kd.int .i64) _ _ _ a2 [.int .i64 a2] from rfl) (Reps.none _ _)))); intro v519 w44 ho45 hb hg_ hnew_; clear hg_ hnew_; (first | rw [← Ny518.out] at ho45 | (simp only [Int.reduceToNat] at ho45; rw [← Ny518.out] at ho45)); have n0_ := Aside0.mk (Kd.R_lower ho45 (below_size (by repeat (first | (with_reducible first | exact HB.out | apply below_alloc | apply pw_below_drewN | apply below_drew1 | refine below_set ?_ GE517.out) | exact HB.out)))); have n1_ := Aside0.mk (blk_below (g := gb517) (o := .cells #[.bool a3_0, .slice A3_1 l3_1.length c3_1, .string a3_2] 55 (0, 0)) (by (with_reducible repeat (first | refine blk_drewN ?_ _ | refine blk_drew ?_ | refine blk_alloc ?_ _)); exact BK517.out) hb); have n2_ := Aside0.mk (below_step (by repeat (first | (with_reducible first | exact HB.out | apply below_alloc | apply pw_below_drewN | apply below_drew1 | refine below_set ?_ GE517.out) | exact HB.out)) hb); clear BK517; clear HB; have HO520 := n0_; have BK517 := n1_; have HB := n2_; clear n0_ n1_ n2_; clear hb ho45; obtain ⟨Ao46, co46, eo46⟩ := Kd.R_slice HO520.out; subst eo46) | ((with_reducible refine gate_callee (f := 40) rfl ?_); refine goesL_ (some 15) rfl rfl Try.func40 (by kernel_rfl) rfl #[.slice A0 l0.length c0, .slice Ao46 y518.length co46] rfl (by (try simp only [List.map_toArray, List.map_cons, List.map_nil]); first | done | rfl | (simp only [List.length_drop, List.length_take]; rfl)) ?_; (with_reducible refine (loops_areNodes.calls k _ _ l0 _ _ y518 false _ ?side1 ?side2 ?side3 ?side4 A5.out).mono ?_); (case side1 => repeat (first | exact (Kd.C_below HR0.out HB.out) | (with_reducible refine Kd.C_alloc ?_ _) | (with_reducible refine Kd.C_drewN ?_ _) | (with_reducible refine Kd.C_drew ?_))); (case side2 => exact HC0.out); (case side3 => repeat (first | exact (Kd.R_reads' HO520.out).2.2 | (with_reducible refine Kd.C_alloc ?_ _) | (with_reducible refine Kd.C_drewN ?_ _) | (with_reducible refine Kd.C_drew ?_))); (case side4 => exact (Kd.R_reads' HO520.out).2.1); rintro e w47 ⟨rfl, hb⟩; refine ⟨_, rfl, ?_⟩; have n0_ := Aside0.mk (Kd.R_below (by (with_reducible repeat (first | apply Kd.R_alloc | apply Kd.R_drewN | apply Kd.R_drew)); exact HO520.out) hb); have n1_ := Aside0.mk (blk_below (g := gb517) (o := .cells #[.bool a3_0, .slice A3_1 l3_1.length c3_1, .string a3_2] 55 (0, 0)) (by (with_reducible repeat (first | refine blk_drewN ?_ _ | refine blk_drew ?_ | refine blk_alloc ?_ _)); exact BK517.out) hb); have n2_ := Aside0.mk (below_step (by repeat (first | (with_reducible first | exact HB.out | apply below_alloc | apply pw_below_drewN | apply below_drew1 | refine below_set ?_ GE517.out) | exact HB.out)) hb); clear HO520; clear BK517; clear HB; have HO520 := n0_; have BK517 := n1_; have HB := n2_; clear n0_ n1_ n2_; (try clear hb); (try clear hb2); (try clear hk); (try clear hi)))
  go_ret
  exact ⟨by first | rfl | (simp [errW_none, errW_some] <;> rfl) | (simp [*, errW_none, errW_some] <;> rfl), by repeat (first | (with_reducible first | exact HB.out | apply below_alloc | apply pw_below_drewN | apply below_drew1 | refine below_set ?_ GE517.out) | exact HB.out)⟩
 subst c6
 have H1 : (if a3_2.toList = ([] : List UInt8) then ((loops_isClosed.f l0 l3_1 a1 a2).bind fun t523 => (loops_Check.j0 k l0 t523 a3_0 l3_1 a3_2 a1 a2)) else (loops_Check.j0 k l0 false a3_0 l3_1 a3_2 a1 a2)) = some r := by rw [if_pos rfl] at H; exact H
 clear H
 have H := H1
 clear H1
 have HC7 := Aside0.mk H
 clear H
 go_enter Try.func35, Try.ntmps35
 go_upto_region 4 with (first | ((with_reducible refine gate_dst (N := 7) rfl ?_); refine box_event ?hg (N := 7) ?hd (cs := #[.bool a3_0, .slice A3_1 l3_1.length c3_1, .string a3_2]) (t := 55) ?hr ?_; (case hd => rfl); (case hg => rfl); (case hr => first | (go_simp; done) | (go_simp; rfl)); intro gb517 hg w8 hbox hb; have n0_ := Aside0.mk (below_step (by repeat (first | (with_reducible first | exact HB.out | apply below_alloc | apply pw_below_drewN | apply below_drew1) | exact HB.out)) hb); have n1_ := Aside0.mk (hbox); have n2_ := Aside0.mk ((by rw [hg]; exact (below_size (by repeat (first | (with_reducible first | exact HB.out | apply below_alloc | apply pw_below_drewN | apply below_drew1) | exact HB.out))) : w.heap.size ≤ gb517)); have n3_ := Aside0.mk ((by rw [hg]; exact (below_size (by repeat (first | (with_reducible first | exact HB.out | apply below_alloc | apply pw_below_drewN | apply below_drew1) | exact HB.out))) : w.heap.size ≤ gb517)); clear HB; have HB := n0_; have BK517 := n1_; have GW517 := n2_; have GE517 := n3_; clear n0_ n1_ n2_ n3_; clear hb hbox hg) | ((with_reducible refine gate_dst (N := 14) rfl ?_); refine Kd.R_lit (Kd.int .i64) _ 3 ?hg (N := 14) ?hd (xs := ([a1, a2] : List Int)) (inner := [.int .i64 a1, .int .i64 a2]) (ok := fun _ => True) (okp := fun _ => True) ?hr ?hp (fun _ hk => hk) trivial (Below.refl _ _) (Nat.le_refl _) (by simp) ?_; (case hd => rfl); (case hg => rfl); (case hr => first | (go_simp; done) | (go_simp; rfl)); (case hp => exact (Reps.one (show Kd.M (Kd.int .i64) _ _ _ a1 [.int .i64 a1] from rfl) (Reps.one (show Kd.M (Kd.int .i64) _ _ _ a2 [.int .i64 a2] from rfl) (Reps.none _ _)))); intro v519 w9 ho10 hb hg_ hnew_; clear hg_ hnew_; (first | rw [← Ny518.out] at ho10 | (simp only [Int.reduceToNat] at ho10; rw [← Ny518.out] at ho10)); have n0_ := Aside0.mk (Kd.R_lower ho10 (below_size (by repeat (first | (with_reducible first | exact HB.out | apply below_alloc | apply pw_below_drewN | apply below_drew1 | refine below_set ?_ GE517.out) | exact HB.out)))); have n1_ := Aside0.mk (blk_below (g := gb517) (o := .cells #[.bool a3_0, .slice A3_1 l3_1.length c3_1, .string a3_2] 55 (0, 0)) (by (with_reducible repeat (first | refine blk_drewN ?_ _ | refine blk_drew ?_ | refine blk_alloc ?_ _)); exact BK517.out) hb); have n2_ := Aside0.mk (below_step (by repeat (first | (with_reducible first | exact HB.out | apply below_alloc | apply pw_below_drewN | apply below_drew1 | refine below_set ?_ GE517.out) | exact HB.out)) hb); clear BK517; clear HB; have HO520 := n0_; have BK517 := n1_; have HB := n2_; clear n0_ n1_ n2_; clear hb ho10; obtain ⟨Ao11, co11, eo11⟩ := Kd.R_slice HO520.out; subst eo11) | ((with_reducible refine gate_callee (f := 40) rfl ?_); refine goesL_ (some 15) rfl rfl Try.func40 (by kernel_rfl) rfl #[.slice A0 l0.length c0, .slice Ao11 y518.length co11] rfl (by (try simp only [List.map_toArray, List.map_cons, List.map_nil]); first | done | rfl | (simp only [List.length_drop, List.length_take]; rfl)) ?_; (with_reducible refine (loops_areNodes.calls k _ _ l0 _ _ y518 true _ ?side1 ?side2 ?side3 ?side4 A5.out).mono ?_); (case side1 => repeat (first | exact (Kd.C_below HR0.out HB.out) | (with_reducible refine Kd.C_alloc ?_ _) | (with_reducible refine Kd.C_drewN ?_ _) | (with_reducible refine Kd.C_drew ?_))); (case side2 => exact HC0.out); (case side3 => repeat (first | exact (Kd.R_reads' HO520.out).2.2 | (with_reducible refine Kd.C_alloc ?_ _) | (with_reducible refine Kd.C_drewN ?_ _) | (with_reducible refine Kd.C_drew ?_))); (case side4 => exact (Kd.R_reads' HO520.out).2.1); rintro e w12 ⟨rfl, hb⟩; refine ⟨_, rfl, ?_⟩; have n0_ := Aside0.mk (Kd.R_below (by (with_reducible repeat (first | apply Kd.R_alloc | apply Kd.R_drewN | apply Kd.R_drew)); exact HO520.out) hb); have n1_ := Aside0.mk (blk_below (g := gb517) (o := .cells #[.bool a3_0, .slice A3_1 l3_1.length c3_1, .string a3_2] 55 (0, 0)) (by (with_reducible repeat (first | refine blk_drewN ?_ _ | refine blk_drew ?_ | refine blk_alloc ?_ _)); exact BK517.out) hb); have n2_ := Aside0.mk (below_step (by repeat (first | (with_reducible first | exact HB.out | apply below_alloc | apply pw_below_drewN | apply below_drew1 | refine below_set ?_ GE517.out) | exact HB.out)) hb); clear HO520; clear BK517; clear HB; have HO520 := n0_; have BK517 := n1_; have HB := n2_; clear n0_ n1_ n2_; (try clear hb); (try clear hb2); (try clear hk); (try clear hi)) | ((with_reducible refine gate_dst (N := 9) rfl ?_); refine box_event ?hg (N := 9) ?hd (cs := #[.int .i64 0, .int .i64 0]) (t := 23) ?hr ?_; (case hd => rfl); (case hg => rfl); (case hr => first | (go_simp; done) | (go_simp; rfl)); intro gb522 hg w13 hbox hb; have n0_ := Aside0.mk (Kd.R_below (by (with_reducible repeat (first | apply Kd.R_alloc | apply Kd.R_drewN | apply Kd.R_drew)); exact HO520.out) hb); have n1_ := Aside0.mk (blk_below (g := gb517) (o := .cells #[.bool a3_0, .slice A3_1 l3_1.length c3_1, .string a3_2] 55 (0, 0)) (by (with_reducible repeat (first | refine blk_drewN ?_ _ | refine blk_drew ?_ | refine blk_alloc ?_ _)); exact BK517.out) hb); have n2_ := Aside0.mk (below_step (by repeat (first | (with_reducible first | exact HB.out | apply below_alloc | apply pw_below_drewN | apply below_drew1 | refine below_set ?_ GE517.out) | exact HB.out)) hb); have n3_ := Aside0.mk (hbox); have n4_ := Aside0.mk ((by rw [hg]; exact (below_size (by repeat (first | (with_reducible first | exact HB.out | apply below_alloc | apply pw_below_drewN | apply below_drew1 | refine below_set ?_ GE517.out) | exact HB.out))) : w.heap.size ≤ gb522)); have n5_ := Aside0.mk ((by rw [hg]; exact (below_size (by repeat (first | (with_reducible first | exact HB.out | apply below_alloc | apply pw_below_drewN | apply below_drew1 | refine below_set ?_ GE517.out) | exact HB.out))) : w.heap.size ≤ gb522)); have n6_ := Aside0.mk ((by rw [hg]; exact Nat.ne_of_lt (blk_lt (g := gb517) (o := .cells #[.bool a3_0, .slice A3_1 l3_1.length c3_1, .string a3_2] 55 (0, 0)) (by (with_reducible repeat (first | refine blk_drewN ?_ _ | refine blk_drew ?_ | refine blk_alloc ?_ _)); exact BK517.out)) : gb517 ≠ gb522)); have n7_ := Aside0.mk ((by rw [hg]; exact Nat.ne_of_gt (blk_lt (g := gb517) (o := .cells #[.bool a3_0, .slice A3_1 l3_1.length c3_1, .string a3_2] 55 (0, 0)) (by (with_reducible repeat (first | refine blk_drewN ?_ _ | refine blk_drew ?_ | refine blk_alloc ?_ _)); exact BK517.out)) : gb522 ≠ gb517)); clear HO520; clear BK517; clear HB; have HO520 := n0_; have BK517 := n1_; have HB := n2_; have BK522 := n3_; have GW522 := n4_; have GE522 := n5_; have NB517_522 := n6_; have NB522_517 := n7_; clear n0_ n1_ n2_ n3_ n4_ n5_ n6_ n7_; clear hb hbox hg; have hnb14 := NB522_517.out; have hnc14 := NB517_522.out; have hcz15_0 : w13.cell? ⟨gb522, 0, none⟩ = some (.int .i64 0) := (blk_cell BK522.out 0).trans rfl; have hcz15_1 : w13.cell? ⟨gb522, 1, none⟩ = some (.int .i64 0) := (blk_cell BK522.out 1).trans rfl; have hfz15_0 := blk_frozen BK522.out 0; have hfz15_1 := blk_frozen BK522.out 1))
 (try simp only [Act.put, List.setIfInBounds_toArray, List.set_cons_zero, List.set_cons_succ])
 go_cut [10] (fun v10 wc => ∃ (kq : Nat) (x10_6 : Bool), v10 = .bool x10_6 ∧ Aside0 (loops_Check.j0 kq l0 x10_6 a3_0 l3_1 a3_2 a1 a2 = some r) ∧ Aside0 (kq ≤ k) ∧ Aside0 (wc.heap[gb517]? = some (.cells #[.bool a3_0, (.slice A3_1 l3_1.length c3_1), .string a3_2] 55 (0, 0))) ∧ Aside0 (wc.heap[gb522]? = some (.cells #[.int .i64 a1, .int .i64 a2] 23 (0, 0))) ∧ Aside0 (Below w.heap.size w wc))
 case first =>
  have H := HC7.out
  clear HC7
  by_cases c16 : a3_2.toList = ([] : List UInt8)
  rotate_left
  ·rw [if_neg c16] at H
   have c16b0 : (a3_2.toList == ([] : List UInt8)) = false := beq_eq_false_iff_ne.mpr c16
   have c16b1 : (a3_2.toList != ([] : List UInt8)) = true := bne_iff_ne.mpr c16
   (first | rw [c16b0] | (simp only [i64_w, i32_w]; rw [c16b0]) | skip)
   have H' := Aside0.mk H
   clear H
   have hnb22 := NB517_522.out
   have hnc22 := NB522_517.out
   have hcz23_0 : w13.cell? ⟨gb517, 0, none⟩ = some (.bool a3_0) := (blk_cell BK517.out 0).trans rfl
   have hcz23_1 : w13.cell? ⟨gb517, 1, none⟩ = some (.slice A3_1 l3_1.length c3_1) := (blk_cell BK517.out 1).trans rfl
   have hcz23_2 : w13.cell? ⟨gb517, 2, none⟩ = some (.string a3_2) := (blk_cell BK517.out 2).trans rfl
   have hfz23_0 := blk_frozen BK517.out 0
   have hfz23_1 := blk_frozen BK517.out 1
   have hfz23_2 := blk_frozen BK517.out 2
   go_wp2
   go_meet
   exact ⟨_, (false), (by first | rfl | (simp; done) | (simp [*]; done)), H', ⟨by first | omega | exact Nat.le_refl _⟩, ⟨by (with_reducible repeat (first | refine blk_drewN ?_ _ | refine blk_drew ?_ | refine blk_alloc ?_ _)); refine blk_far ?_ NB517_522.out _; (with_reducible repeat (first | refine blk_drewN ?_ _ | refine blk_drew ?_ | refine blk_alloc ?_ _)); refine blk_far ?_ NB517_522.out _; (with_reducible repeat (first | refine blk_drewN ?_ _ | refine blk_drew ?_ | refine blk_alloc ?_ _)); exact BK517.out⟩, ⟨by (with_reducible repeat (first | refine blk_drewN ?_ _ | refine blk_drew ?_ | refine blk_alloc ?_ _)); refine blk_put (cs := #[.int .i64 a1, .int .i64 0]) ?_ 1 _ rfl; (with_reducible repeat (first | refine blk_drewN ?_ _ | refine blk_drew ?_ | refine blk_alloc ?_ _)); refine blk_put (cs := #[.int .i64 0, .int .i64 0]) ?_ 0 _ rfl; (with_reducible repeat (first | refine blk_drewN ?_ _ | refine blk_drew ?_ | refine blk_alloc ?_ _)); exact BK522.out⟩, ⟨by repeat (first | (with_reducible first | exact HB.out | apply below_alloc | apply pw_below_drewN | apply below_drew1 | refine below_set ?_ GE517.out | refine below_set ?_ GE522.out) | exact HB.out)⟩⟩
  rw [if_pos c16] at H
  have c16b0 : (a3_2.toList == ([] : List UInt8)) = true := beq_iff_eq.mpr c16
  have c16b1 : (a3_2.toList != ([] : List UInt8)) = false := bne_eq_false_iff_eq.mpr c16
  clear c16
  (first | rw [c16b0] | (simp only [i64_w, i32_w]; rw [c16b0]) | skip)
  replace H := Option.bind_eq_some_iff.mp H
  obtain ⟨t523, A170, H⟩ := H
  replace H : (loops_Check.j0 k l0 t523 a3_0 l3_1 a3_2 a1 a2) = some r := H
  have A17 := Aside0.mk A170
  clear A170
  have H' := Aside0.mk H
  clear H
  have hnb18 := NB517_522.out
  have hnc18 := NB522_517.out
  have hcz19_0 : w13.cell? ⟨gb517, 0, none⟩ = some (.bool a3_0) := (blk_cell BK517.out 0).trans rfl
  have hcz19_1 : w13.cell? ⟨gb517, 1, none⟩ = some (.slice A3_1 l3_1.length c3_1) := (blk_cell BK517.out 1).trans rfl
  have hcz19_2 : w13.cell? ⟨gb517, 2, none⟩ = some (.string a3_2) := (blk_cell BK517.out 2).trans rfl
  have hfz19_0 := blk_frozen BK517.out 0
  have hfz19_1 := blk_frozen BK517.out 1
  have hfz19_2 := blk_frozen BK517.out 2
  have hcz20_0 : w13.cell? ⟨gb522, 0, none⟩ = some (.int .i64 0) := (blk_cell BK522.out 0).trans rfl
  have hcz20_1 : w13.cell? ⟨gb522, 1, none⟩ = some (.int .i64 0) := (blk_cell BK522.out 1).trans rfl
  have hfz20_0 := blk_frozen BK522.out 0
  have hfz20_1 := blk_frozen BK522.out 1
  go_wp2_with (first | (go_at_call 55; (with_reducible refine (loops_isClosed.calls _ _ l0 _ _ l3_1 a1 a2 t523 _ ?side1 ?side2 ?side3 ?side4 A17.out).mono ?_); (case side1 => exact Kd.C_below HR0.out (by repeat (first | (with_reducible first | exact HB.out | apply below_alloc | apply pw_below_drewN | apply below_drew1 | refine below_set ?_ GE517.out | refine below_set ?_ GE522.out) | exact HB.out))); (case side2 => exact HC0.out); (case side3 => exact Kd.C_below HR3_1.out (by repeat (first | (with_reducible first | exact HB.out | apply below_alloc | apply pw_below_drewN | apply below_drew1 | refine below_set ?_ GE517.out | refine below_set ?_ GE522.out) | exact HB.out))); (case side4 => exact HC3_1.out); rintro e w21 ⟨rfl, hb⟩; have n0_ := Aside0.mk (Kd.R_below (by (with_reducible repeat (first | apply Kd.R_alloc | apply Kd.R_drewN | apply Kd.R_drew)); exact (Kd.R_mono (Kd.R_far (p := ⟨gb522, 1, none⟩) (Kd.R_far (p := ⟨gb522, 0, none⟩) (Kd.R_types HO520.out BK522.out (by decide)) (fun _ hk => hk.2) (.int .i64 a1)) (fun _ hk => hk.2) (.int .i64 a2)) (fun _ h_ => h_.1))) hb); have n1_ := Aside0.mk (blk_below (g := gb517) (o := .cells #[.bool a3_0, .slice A3_1 l3_1.length c3_1, .string a3_2] 55 (0, 0)) (by (with_reducible repeat (first | refine blk_drewN ?_ _ | refine blk_drew ?_ | refine blk_alloc ?_ _)); refine blk_far ?_ NB517_522.out _; (with_reducible repeat (first | refine blk_drewN ?_ _ | refine blk_drew ?_ | refine blk_alloc ?_ _)); refine blk_far ?_ NB517_522.out _; (with_reducible repeat (first | refine blk_drewN ?_ _ | refine blk_drew ?_ | refine blk_alloc ?_ _)); exact BK517.out) hb); have n2_ := Aside0.mk (blk_below (g := gb522) (o := .cells #[.int .i64 a1, .int .i64 a2] 23 (0, 0)) (by (with_reducible repeat (first | refine blk_drewN ?_ _ | refine blk_drew ?_ | refine blk_alloc ?_ _)); refine blk_put (cs := #[.int .i64 a1, .int .i64 0]) ?_ 1 _ rfl; (with_reducible repeat (first | refine blk_drewN ?_ _ | refine blk_drew ?_ | refine blk_alloc ?_ _)); refine blk_put (cs := #[.int .i64 0, .int .i64 0]) ?_ 0 _ rfl; (with_reducible repeat (first | refine blk_drewN ?_ _ | refine blk_drew ?_ | refine blk_alloc ?_ _)); exact BK522.out) hb); have n3_ := Aside0.mk (below_step (by repeat (first | (with_reducible first | exact HB.out | apply below_alloc | apply pw_below_drewN | apply below_drew1 | refine below_set ?_ GE517.out | refine below_set ?_ GE522.out) | exact HB.out)) hb); clear HO520; clear BK517; clear BK522; clear HB; have HO520 := n0_; have BK517 := n1_; have BK522 := n2_; have HB := n3_; clear n0_ n1_ n2_ n3_; (try clear hb); (try clear hb2); (try clear hk); (try clear hi)))
  go_meet
  exact ⟨_, (t523), (by first | rfl | (simp; done) | (simp [*]; done)), H', ⟨by first | omega | exact Nat.le_refl _⟩, ⟨by (with_reducible repeat (first | refine blk_drewN ?_ _ | refine blk_drew ?_ | refine blk_alloc ?_ _)); exact BK517.out⟩, ⟨by (with_reducible repeat (first | refine blk_drewN ?_ _ | refine blk_drew ?_ | refine blk_alloc ?_ _)); exact BK522.out⟩, ⟨by repeat (first | (with_reducible first | exact HB.out | apply below_alloc | apply pw_below_drewN | apply below_drew1 | refine below_set ?_ GE517.out | refine below_set ?_ GE522.out) | exact HB.out)⟩⟩
 case rest =>
  clear HC7
  try clear c1
  try clear c2
  try clear p2
  try clear c3
  try clear c4
  try clear c6
  try clear c14
  try clear c16
  try clear c16b0
  try clear c16b1
  try clear c18
  try clear c22
  try clear hcz15_0
  try clear hcz15_1
  try clear hcz19_0
  try clear hcz19_1
  try clear hcz19_2
  try clear hcz20_0
  try clear hcz20_1
  try clear hcz23_0
  try clear hcz23_1
  try clear hcz23_2
  try clear hfz15_0
  try clear hfz15_1
  try clear hfz19_0
  try clear hfz19_1
  try clear hfz19_2
  try clear hfz20_0
  try clear hfz20_1
  try clear hfz23_0
  try clear hfz23_1
  try clear hfz23_2
  obtain ⟨kq, x10_6, rfl, HA, HJ6, BK517, BK522, HB⟩ := hcut
  cases kq with
  | zero => exact absurd HA.out (by simp [loops_Check.j0])
  | succ kj6 =>
   have H := HA.out
   clear HA
   simp only [loops_Check.j0] at H
   by_cases c24 : a3_0 = true
   ·subst c24
    have H1 : (if x10_6 = true then (some 0) else (some 10)) = some r := by rw [if_pos rfl] at H; exact H
    clear H
    have H := H1
    clear H1
    by_cases c25 : x10_6 = true
    ·subst c25
     have H1 : (some 0) = some r := by rw [if_pos rfl] at H; exact H
     clear H
     have H := H1
     clear H1
     obtain rfl := Option.some.inj H
     have hnb26 := NB517_522.out
     have hnc26 := NB522_517.out
     have hcz27_0 : wc.cell? ⟨gb517, 0, none⟩ = some (.bool true) := (blk_cell BK517.out 0).trans rfl
     have hcz27_1 : wc.cell? ⟨gb517, 1, none⟩ = some (.slice A3_1 l3_1.length c3_1) := (blk_cell BK517.out 1).trans rfl
     have hcz27_2 : wc.cell? ⟨gb517, 2, none⟩ = some (.string a3_2) := (blk_cell BK517.out 2).trans rfl
     have hfz27_0 := blk_frozen BK517.out 0
     have hfz27_1 := blk_frozen BK517.out 1
     have hfz27_2 := blk_frozen BK517.out 2
     go_wp2
     go_ret
     exact ⟨by first | rfl | (simp [errW_none, errW_some] <;> rfl) | (simp [*, errW_none, errW_some] <;> rfl), by repeat (first | (with_reducible first | exact HB.out | apply below_alloc | apply pw_below_drewN | apply below_drew1 | refine below_set ?_ GE517.out | refine below_set ?_ GE522.out) | exact HB.out)⟩
    replace c25 := Bool.eq_false_iff.mpr c25
    subst c25
    have H1 : (some 10) = some r := by rw [if_neg (show ¬ (false = true) by decide)] at H; exact H
    clear H
    have H := H1
    clear H1
    obtain rfl := Option.some.inj H
    have hnb28 := NB517_522.out
    have hnc28 := NB522_517.out
    have hcz29_0 : wc.cell? ⟨gb517, 0, none⟩ = some (.bool true) := (blk_cell BK517.out 0).trans rfl
    have hcz29_1 : wc.cell? ⟨gb517, 1, none⟩ = some (.slice A3_1 l3_1.length c3_1) := (blk_cell BK517.out 1).trans rfl
    have hcz29_2 : wc.cell? ⟨gb517, 2, none⟩ = some (.string a3_2) := (blk_cell BK517.out 2).trans rfl
    have hfz29_0 := blk_frozen BK517.out 0
    have hfz29_1 := blk_frozen BK517.out 1
    have hfz29_2 := blk_frozen BK517.out 2
    go_wp2
    go_ret
    exact ⟨by first | rfl | (simp [errW_none, errW_some] <;> rfl) | (simp [*, errW_none, errW_some] <;> rfl), by repeat (first | (with_reducible first | exact HB.out | apply below_alloc | apply pw_below_drewN | apply below_drew1 | refine below_set ?_ GE517.out | refine below_set ?_ GE522.out) | exact HB.out)⟩
   replace c24 := Bool.eq_false_iff.mpr c24
   subst c24
   have H1 : (if (l3_1.length : Int) = 0 then ((loops_refutes.f l0 a3_2 a1 a2).bind fun t524 => (if t524 = true then (some 0) else (some 10))) else (some 10)) = some r := by rw [if_neg (show ¬ (false = true) by decide)] at H; exact H
   clear H
   have H := H1
   clear H1
   by_cases c30 : (l3_1.length : Int) = 0
   rotate_left
   ·rw [if_neg c30] at H
    have c30b0 : ((l3_1.length : Int) == 0) = false := beq_eq_false_iff_ne.mpr c30
    have c30b1 : ((l3_1.length : Int) != 0) = true := bne_iff_ne.mpr c30
    have c30b2 : ¬ (l3_1 = []) := fun h_ => c30 (by rw [h_]; rfl)
    obtain rfl := Option.some.inj H
    have hnb41 := NB517_522.out
    have hnc41 := NB522_517.out
    have hcz42_0 : wc.cell? ⟨gb517, 0, none⟩ = some (.bool false) := (blk_cell BK517.out 0).trans rfl
    have hcz42_1 : wc.cell? ⟨gb517, 1, none⟩ = some (.slice A3_1 l3_1.length c3_1) := (blk_cell BK517.out 1).trans rfl
    have hcz42_2 : wc.cell? ⟨gb517, 2, none⟩ = some (.string a3_2) := (blk_cell BK517.out 2).trans rfl
    have hfz42_0 := blk_frozen BK517.out 0
    have hfz42_1 := blk_frozen BK517.out 1
    have hfz42_2 := blk_frozen BK517.out 2
    go_wp2
    go_ret
    exact ⟨by first | rfl | (simp [errW_none, errW_some] <;> rfl) | (simp [*, errW_none, errW_some] <;> rfl), by repeat (first | (with_reducible first | exact HB.out | apply below_alloc | apply pw_below_drewN | apply below_drew1 | refine below_set ?_ GE517.out | refine below_set ?_ GE522.out) | exact HB.out)⟩
   rw [if_pos c30] at H
   have c30b0 : ((l3_1.length : Int) == 0) = true := beq_iff_eq.mpr c30
   have c30b1 : ((l3_1.length : Int) != 0) = false := bne_eq_false_iff_eq.mpr c30
   clear c30
   replace H := Option.bind_eq_some_iff.mp H
   obtain ⟨t524, A310, H⟩ := H
   replace H : (if t524 = true then (some 0) else (some 10)) = some r := H
   have A31 := Aside0.mk A310
   clear A310
   by_cases c32 : t524 = true
   ·subst c32
    have H1 : (some 0) = some r := by rw [if_pos rfl] at H; exact H
    clear H
    have H := H1
    clear H1
    obtain rfl := Option.some.inj H
    have hnb33 := NB517_522.out
    have hnc33 := NB522_517.out
    have hcz34_0 : wc.cell? ⟨gb517, 0, none⟩ = some (.bool false) := (blk_cell BK517.out 0).trans rfl
    have hcz34_1 : wc.cell? ⟨gb517, 1, none⟩ = some (.slice A3_1 l3_1.length c3_1) := (blk_cell BK517.out 1).trans rfl
    have hcz34_2 : wc.cell? ⟨gb517, 2, none⟩ = some (.string a3_2) := (blk_cell BK517.out 2).trans rfl
    have hfz34_0 := blk_frozen BK517.out 0
    have hfz34_1 := blk_frozen BK517.out 1
    have hfz34_2 := blk_frozen BK517.out 2
    have hcz35_0 : wc.cell? ⟨gb522, 0, none⟩ = some (.int .i64 a1) := (blk_cell BK522.out 0).trans rfl
    have hcz35_1 : wc.cell? ⟨gb522, 1, none⟩ = some (.int .i64 a2) := (blk_cell BK522.out 1).trans rfl
    have hfz35_0 := blk_frozen BK522.out 0
    have hfz35_1 := blk_frozen BK522.out 1
    go_wp2_with (first | (go_at_call 56; (with_reducible refine (loops_refutes.calls _ _ l0 a3_2 a1 a2 true _ ?side1 ?side2 A31.out).mono ?_); (case side1 => repeat (first | exact (Kd.C_below HR0.out HB.out) | (with_reducible refine Kd.C_alloc ?_ _) | (with_reducible refine Kd.C_drewN ?_ _) | (with_reducible refine Kd.C_drew ?_))); (case side2 => exact HC0.out); rintro e w36 ⟨rfl, hb⟩; have n0_ := Aside0.mk (blk_below (g := gb517) (o := .cells #[.bool false, .slice A3_1 l3_1.length c3_1, .string a3_2] 55 (0, 0)) (by (with_reducible repeat (first | refine blk_drewN ?_ _ | refine blk_drew ?_ | refine blk_alloc ?_ _)); exact BK517.out) hb); have n1_ := Aside0.mk (blk_below (g := gb522) (o := .cells #[.int .i64 a1, .int .i64 a2] 23 (0, 0)) (by (with_reducible repeat (first | refine blk_drewN ?_ _ | refine blk_drew ?_ | refine blk_alloc ?_ _)); exact BK522.out) hb); have n2_ := Aside0.mk (below_step (by repeat (first | (with_reducible first | exact HB.out | apply below_alloc | apply pw_below_drewN | apply below_drew1 | refine below_set ?_ GE517.out | refine below_set ?_ GE522.out) | exact HB.out)) hb); clear BK517; clear BK522; clear HB; have BK517 := n0_; have BK522 := n1_; have HB := n2_; clear n0_ n1_ n2_; (try clear hb); (try clear hb2); (try clear hk); (try clear hi)))
    go_ret
    exact ⟨by first | rfl | (simp [errW_none, errW_some] <;> rfl) | (simp [*, errW_none, errW_some] <;> rfl), by repeat (first | (with_reducible first | exact HB.out | apply below_alloc | apply pw_below_drewN | apply below_drew1 | refine below_set ?_ GE517.out | refine below_set ?_ GE522.out) | exact HB.out)⟩
   replace c32 := Bool.eq_false_iff.mpr c32
   subst c32
   have H1 : (some 10) = some r := by rw [if_neg (show ¬ (false = true) by decide)] at H; exact H
   clear H
   have H := H1
   clear H1
   obtain rfl := Option.some.inj H
   have hnb37 := NB517_522.out
   have hnc37 := NB522_517.out
   have hcz38_0 : wc.cell? ⟨gb517, 0, none⟩ = some (.bool false) := (blk_cell BK517.out 0).trans rfl
   have hcz38_1 : wc.cell? ⟨gb517, 1, none⟩ = some (.slice A3_1 l3_1.length c3_1) := (blk_cell BK517.out 1).trans rfl
   have hcz38_2 : wc.cell? ⟨gb517, 2, none⟩ = some (.string a3_2) := (blk_cell BK517.out 2).trans rfl
   have hfz38_0 := blk_frozen BK517.out 0
   have hfz38_1 := blk_frozen BK517.out 1
   have hfz38_2 := blk_frozen BK517.out 2
   have hcz39_0 : wc.cell? ⟨gb522, 0, none⟩ = some (.int .i64 a1) := (blk_cell BK522.out 0).trans rfl
   have hcz39_1 : wc.cell? ⟨gb522, 1, none⟩ = some (.int .i64 a2) := (blk_cell BK522.out 1).trans rfl
   have hfz39_0 := blk_frozen BK522.out 0
   have hfz39_1 := blk_frozen BK522.out 1
   go_wp2_with (first | (go_at_call 56; (with_reducible refine (loops_refutes.calls _ _ l0 a3_2 a1 a2 false _ ?side1 ?side2 A31.out).mono ?_); (case side1 => repeat (first | exact (Kd.C_below HR0.out HB.out) | (with_reducible refine Kd.C_alloc ?_ _) | (with_reducible refine Kd.C_drewN ?_ _) | (with_reducible refine Kd.C_drew ?_))); (case side2 => exact HC0.out); rintro e w40 ⟨rfl, hb⟩; have n0_ := Aside0.mk (blk_below (g := gb517) (o := .cells #[.bool false, .slice A3_1 l3_1.length c3_1, .string a3_2] 55 (0, 0)) (by (with_reducible repeat (first | refine blk_drewN ?_ _ | refine blk_drew ?_ | refine blk_alloc ?_ _)); exact BK517.out) hb); have n1_ := Aside0.mk (blk_below (g := gb522) (o := .cells #[.int .i64 a1, .int .i64 a2] 23 (0, 0)) (by (with_reducible repeat (first | refine blk_drewN ?_ _ | refine blk_drew ?_ | refine blk_alloc ?_ _)); exact BK522.out) hb); have n2_ := Aside0.mk (below_step (by repeat (first | (with_reducible first | exact HB.out | apply below_alloc | apply pw_below_drewN | apply below_drew1 | refine below_set ?_ GE517.out | refine below_set ?_ GE522.out) | exact HB.out)) hb); clear BK517; clear BK522; clear HB; have BK517 := n0_; have BK522 := n1_; have HB := n2_; clear n0_ n1_ n2_; (try clear hb); (try clear hb2); (try clear hk); (try clear hi)))
   go_ret
   exact ⟨by first | rfl | (simp [errW_none, errW_some] <;> rfl) | (simp [*, errW_none, errW_some] <;> rfl), by repeat (first | (with_reducible first | exact HB.out | apply below_alloc | apply pw_below_drewN | apply below_drew1 | refine below_set ?_ GE517.out | refine below_set ?_ GE522.out) | exact HB.out)⟩

def tickinglaw06_finding.f (a0_0 : Bool) (l0_1 : List (S23)) (a0_2 : ByteArray) : Option (Bool × (List (S23)) × ByteArray) := if 0 ≤ (mn (a0_2.size : Int) 700) then (if (mn (a0_2.size : Int) 700) ≤ (a0_2.size : Int) then (if 0 ≤ (mn (l0_1.length : Int) 601) then (if (mn (l0_1.length : Int) 601) ≤ (l0_1.length : Int) then ((some (l0_1.take ((mn (l0_1.length : Int) 601) : Int).toNat : List (S23))).bind fun y549 => (if ([] : List (S23)).length + y549.length < 8796093022208 then (some (a0_0, (([] : List (S23)) ++ y549), a0_2.extract 0 ((mn (a0_2.size : Int) 700) : Int).toNat)) else (none))) else (none)) else (none)) else (none)) else (none)
def tickinglaw06_finding.T1 : Bool × List (List Nat × List Nat) := (true, [([], []), ([0], [0]), ([], []), ([2], [2]), ([], []), ([4], [4]), ([5], [5]), ([6], [6]), ([3, 7], [3, 7]), ([1, 8], [1, 8]), ([], []), ([10, 9, 0, 1, 2, 3, 4, 5, 6, 7, 8, 9, 10], [9, 10])])
def tickinglaw06_finding.B1 : List Nat := [0, 1, 0, 4, 0, 16, 48, 112, 252, 511, 0, 2047]
theorem tickinglaw06_finding.tab1 : rtab .any (opsOf Try.f36 1) = tickinglaw06_finding.T1 := by kernel_rfl
theorem tickinglaw06_finding.bits1 : waitsOk tickinglaw06_finding.T1.2 tickinglaw06_finding.B1 = true := by kernel_rfl
set_option maxHeartbeats 8000000 in
set_option maxRecDepth 100000 in
theorem tickinglaw06_finding.calls (a0_0 : Bool) (A0_1 : Option Addr) (c0_1 : Nat) (l0_1 : List (S23)) (a0_2 : ByteArray) (r1 : Bool) (r2 : List (S23)) (r3 : ByteArray) (w : World) (hr0_1 : Kd.C k23 w A0_1 l0_1.length l0_1) (hc0_1 : l0_1.length ≤ c0_1) (h : tickinglaw06_finding.f a0_0 l0_1 a0_2 = some (r1, r2, r3)) :
  Calls Try.prog 36 #[.agg #[.bool a0_0, .slice A0_1 l0_1.length c0_1, .string a0_2]] w fun e w' => ∃ v1_ : Value, e = .returned (.agg #[.bool r1, v1_, .string r3]) ∧ Kd.R k23 23 w' w.heap.size (fun _ => True) v1_ r2 ∧ Below w.heap.size w w' := by
 have hu55 := Try.underlying55
 have HR0_1 := Aside0.mk hr0_1
 have HC0_1 := Aside0.mk hc0_1
 clear hr0_1 hc0_1
 have HB := Aside0.mk (Below.refl w.heap.size w)
 have H : (if 0 ≤ (mn (a0_2.size : Int) 700) then (if (mn (a0_2.size : Int) 700) ≤ (a0_2.size : Int) then (if 0 ≤ (mn (l0_1.length : Int) 601) then (if (mn (l0_1.length : Int) 601) ≤ (l0_1.length : Int) then ((some (l0_1.take ((mn (l0_1.length : Int) 601) : Int).toNat : List (S23))).bind fun y549 => (if ([] : List (S23)).length + y549.length < 8796093022208 then (some (a0_0, (([] : List (S23)) ++ y549), a0_2.extract 0 ((mn (a0_2.size : Int) 700) : Int).toNat)) else (none))) else (none)) else (none)) else (none)) else (none)) = some (r1, r2, r3) := h
 clear h
 obtain ⟨ji2, hji2⟩ : ∃ j_ : Int, (mn (a0_2.size : Int) 700) = j_ := ⟨_, rfl⟩
 replace H : (if 0 ≤ (ji2) then (if (ji2) ≤ (a0_2.size : Int) then (if 0 ≤ (mn (l0_1.length : Int) 601) then (if (mn (l0_1.length : Int) 601) ≤ (l0_1.length : Int) then ((some (l0_1.take ((mn (l0_1.length : Int) 601) : Int).toNat : List (S23))).bind fun y549 => (if ([] : List (S23)).length + y549.length < 8796093022208 then (some (a0_0, (([] : List (S23)) ++ y549), a0_2.extract 0 ((ji2) : Int).toNat)) else (none))) else (none)) else (none)) else (none)) else (none)) = some (r1, r2, r3) := by first | (rw [hji2] at H; exact H) | (simp only [hji2] at H ⊢; exact H)
 (try (have hji2h : ji2 ≤ 700 := by (rw [← hji2]; unfold mn; (repeat' split) <;> omega)))
 (try (have hji2g : ji2 ≤ 64 := by omega))
 (try (have hji2l : 0 ≤ ji2 := by (rw [← hji2]; unfold mn; (repeat' split) <;> omega)))
 (try (have hji2m : 0 ≤ ji2 := by omega))
 have hji2_ : (if 700 < (a0_2.size : Int) then 700 else (a0_2.size : Int)) = ji2 := hji2
 by_cases c3 : 0 ≤ (ji2)
 rotate_left
 ·rw [if_neg c3] at H
  exact absurd H (by simp)
 rw [if_pos c3] at H
 have c3b0 := eq_true c3
 have c3b1 : decide (0 ≤ (ji2)) = true := decide_eq_true c3
 clear c3
 by_cases c4 : (ji2) ≤ (a0_2.size : Int)
 rotate_left
 ·rw [if_neg c4] at H
  exact absurd H (by simp)
 rw [if_pos c4] at H
 have c4b0 := eq_true c4
 have c4b1 : decide ((ji2) ≤ (a0_2.size : Int)) = true := decide_eq_true c4
 clear c4
 obtain ⟨ji5, hji5⟩ : ∃ j_ : Int, (mn (l0_1.length : Int) 601) = j_ := ⟨_, rfl⟩
 replace H : (if 0 ≤ (ji5) then (if (ji5) ≤ (l0_1.length : Int) then ((some (l0_1.take ((ji5) : Int).toNat : List (S23))).bind fun y549 => (if ([] : List (S23)).length + y549.length < 8796093022208 then (some (a0_0, (([] : List (S23)) ++ y549), a0_2.extract 0 ((ji2) : Int).toNat)) else (none))) else (none)) else (none)) = some (r1, r2, r3) := by first | (rw [hji5] at H; exact H) | (simp only [hji5] at H ⊢; exact H)
 (try (have hji5h : ji5 ≤ 601 := by (rw [← hji5]; unfold mn; (repeat' split) <;> omega)))
 (try (have hji5g : ji5 ≤ 64 := by omega))
 (try (have hji5l : 0 ≤ ji5 := by (rw [← hji5]; unfold mn; (repeat' split) <;> omega)))
 (try (have hji5m : 0 ≤ ji5 := by omega))
 have hji5_ : (if 601 < (l0_1.length : Int) then 601 else (l0_1.length : Int)) = ji5 := hji5
 by_cases c6 : 0 ≤ (ji5)
 rotate_left
 ·rw [if_neg c6] at H
  exact absurd H (by simp)
 rw [if_pos c6] at H
 have c6b0 := eq_true c6
 have c6b1 : decide (0 ≤ (ji5)) = true := decide_eq_true c6
 clear c6
 by_cases c7 : (ji5) ≤ (l0_1.length : Int)
 rotate_left
 ·rw [if_neg c7] at H
  exact absurd H (by simp)
 rw [if_pos c7] at H
 have c7b0 := eq_true c7
 have c7b1 : decide ((ji5) ≤ (l0_1.length : Int)) = true := decide_eq_true c7
 clear c7
 obtain ⟨y549, hy549⟩ : ∃ y_ : List (S23), y_ = (l0_1.take ((ji5) : Int).toNat) := ⟨_, rfl⟩
 replace H : (if ([] : List (S23)).length + y549.length < 8796093022208 then (some (a0_0, (([] : List (S23)) ++ y549), a0_2.extract 0 ((ji2) : Int).toNat)) else (none)) = some (r1, r2, r3) := by first | (rw [hy549]; with_reducible exact H) | (have H2_ := (Option.bind_some _ _).symm.trans H; rw [hy549]; with_reducible exact H2_) | (have H2_ := (Option.bind_some _ _).symm.trans H; with_reducible exact H2_) | with_reducible exact H | (rw [hy549]; exact H) | exact H
 have Ny549 := Aside0.mk hy549
 clear hy549
 by_cases c8 : ([] : List (S23)).length + y549.length < 8796093022208
 rotate_left
 ·rw [if_neg c8] at H
  exact absurd H (by simp)
 rw [if_pos c8] at H
 have LMc8 := Aside0.mk c8
 clear c8
 obtain ⟨y553, hy553⟩ : ∃ y_ : List (S23), y_ = (([] : List (S23)) ++ y549) := ⟨_, rfl⟩
 replace H : (some (a0_0, y553, a0_2.extract 0 ((ji2) : Int).toNat)) = some (r1, r2, r3) := by first | (rw [hy553]; with_reducible exact H) | (have H2_ := (Option.bind_some _ _).symm.trans H; rw [hy553]; with_reducible exact H2_) | (have H2_ := (Option.bind_some _ _).symm.trans H; with_reducible exact H2_) | with_reducible exact H | (rw [hy553]; exact H) | exact H
 have Ny553 := Aside0.mk hy553
 clear hy553
 simp only [Option.some.injEq, Prod.mk.injEq] at H
 obtain ⟨rfl, rfl, rfl⟩ := H
 go_enter Try.func36, Try.ntmps36
 try go_wp2_with (first | ((with_reducible refine gate_dst (N := 1) rfl ?_); refine box_event ?hg (N := 1) ?hd (cs := #[.bool a0_0, .slice A0_1 l0_1.length c0_1, .string a0_2]) (t := 55) ?hr ?_; (case hd => rfl); (case hg => rfl); (case hr => first | (go_simp; done) | (go_simp; rfl)); intro gb546 hg w9 hbox hb; have n0_ := Aside0.mk (below_step (by repeat (first | (with_reducible first | exact HB.out | apply below_alloc | apply pw_below_drewN | apply below_drew1) | exact HB.out)) hb); have n1_ := Aside0.mk (hbox); have n2_ := Aside0.mk ((by rw [hg]; exact (below_size (by repeat (first | (with_reducible first | exact HB.out | apply below_alloc | apply pw_below_drewN | apply below_drew1) | exact HB.out))) : w.heap.size ≤ gb546)); have n3_ := Aside0.mk ((by rw [hg]; exact (below_size (by repeat (first | (with_reducible first | exact HB.out | apply below_alloc | apply pw_below_drewN | apply below_drew1) | exact HB.out))) : w.heap.size ≤ gb546)); clear HB; have HB := n0_; have BK546 := n1_; have GW546 := n2_; have GE546 := n3_; clear n0_ n1_ n2_ n3_; clear hb hbox hg) | ((with_reducible refine gate_dst (N := 2) rfl ?_); refine box_event ?hg (N := 2) ?hd (cs := #[.bool false, .slice none 0 0, .string (⟨#[]⟩ : ByteArray)]) (t := 55) ?hr ?_; (case hd => rfl); (case hg => rfl); (case hr => first | (go_simp; done) | (go_simp; rfl)); intro gb547 hg w10 hbox hb; have n0_ := Aside0.mk (blk_below (g := gb546) (o := .cells #[.bool a0_0, .slice A0_1 l0_1.length c0_1, .string a0_2] 55 (0, 0)) (by (with_reducible repeat (first | refine blk_drewN ?_ _ | refine blk_drew ?_ | refine blk_alloc ?_ _)); exact BK546.out) hb); have n1_ := Aside0.mk (below_step (by repeat (first | (with_reducible first | exact HB.out | apply below_alloc | apply pw_below_drewN | apply below_drew1 | refine below_set ?_ GE546.out) | exact HB.out)) hb); have n2_ := Aside0.mk (hbox); have n3_ := Aside0.mk ((by rw [hg]; exact (below_size (by repeat (first | (with_reducible first | exact HB.out | apply below_alloc | apply pw_below_drewN | apply below_drew1 | refine below_set ?_ GE546.out) | exact HB.out))) : w.heap.size ≤ gb547)); have n4_ := Aside0.mk ((by rw [hg]; exact (below_size (by repeat (first | (with_reducible first | exact HB.out | apply below_alloc | apply pw_below_drewN | apply below_drew1 | refine below_set ?_ GE546.out) | exact HB.out))) : w.heap.size ≤ gb547)); have n5_ := Aside0.mk ((by rw [hg]; exact Nat.ne_of_lt (blk_lt (g := gb546) (o := .cells #[.bool a0_0, .slice A0_1 l0_1.length c0_1, .string a0_2] 55 (0, 0)) (by (with_reducible repeat (first | refine blk_drewN ?_ _ | refine blk_drew ?_ | refine blk_alloc ?_ _)); exact BK546.out)) : gb546 ≠ gb547)); have n6_ := Aside0.mk ((by rw [hg]; exact Nat.ne_of_gt (blk_lt (g := gb546) (o := .cells #[.bool a0_0, .slice A0_1 l0_1.length c0_1, .string a0_2] 55 (0, 0)) (by (with_reducible repeat (first | refine blk_drewN ?_ _ | refine blk_drew ?_ | refine blk_alloc ?_ _)); exact BK546.out)) : gb547 ≠ gb546)); clear BK546; clear HB; have BK546 := n0_; have HB := n1_; have BK547 := n2_; have GW547 := n3_; have GE547 := n4_; have NB546_547 := n5_; have NB547_546 := n6_; clear n0_ n1_ n2_ n3_ n4_ n5_ n6_; clear hb hbox hg))
 have n0_ := Aside0.mk (blk_drew BK546.out)
 have n1_ := Aside0.mk (blk_drew BK547.out)
 have n2_ := Aside0.mk (below_drew1 HB.out)
 clear BK546
 clear BK547
 clear HB
 have BK546 := n0_
 have BK547 := n1_
 have HB := n2_
 clear n0_ n1_ n2_
 refine start_ (n := 12) (S := fun w' => w'.cell? ⟨gb546, 0, none⟩ = some (.bool a0_0) ∧ w'.cell? ⟨gb546, 1, none⟩ = some (.slice A0_1 l0_1.length c0_1) ∧ w'.cell? ⟨gb546, 2, none⟩ = some (.string a0_2)) (ds := []) #[false, false, false, false, false, false, false, false, false, false, false, false] (by kernel_rfl) rfl rfl ⟨(blk_cell BK546.out 0).trans rfl, (blk_cell BK546.out 1).trans rfl, (blk_cell BK546.out 2).trans rfl⟩ (fun hHeld => ?_); refine with_tabW tickinglaw06_finding.tab1 tickinglaw06_finding.bits1 (fun HT_ HW_ => ?_)
 generalize w10.drew = w11 at BK546 BK547 HB hHeld ⊢
 refine pure_ (i := 0) (N := some 5) (v := ?_) (a' := ?_) #[true, false, false, false, false, false, false, false, false, false, false, false] rfl rfl (any_of HT_.out (by kernel_rfl)) (fun _ _ _ h => h) (Or.inl ⟨by rfl, ?_⟩) ?_ ?_
 rotate_left
 ·intro w'
  go_simp
  with_reducible rfl
 rotate_left
 ·simp only [Act.put, List.setIfInBounds_toArray, List.set_cons_zero, List.set_cons_succ, i64_w, i32_w]
  rfl
 refine pure_ (i := 2) (N := some 7) (v := ?_) (a' := ?_) #[true, false, true, false, false, false, false, false, false, false, false, false] rfl rfl (any_of HT_.out (by kernel_rfl)) (fun _ _ _ h => h) (Or.inl ⟨by rfl, ?_⟩) ?_ ?_
 rotate_left
 ·intro w'
  go_simp
  with_reducible rfl
 rotate_left
 ·simp only [Act.put, List.setIfInBounds_toArray, List.set_cons_zero, List.set_cons_succ, i64_w, i32_w]
  rfl
 refine pure_ (i := 4) (N := some 9) (v := ?_) (a' := ?_) #[true, false, true, false, true, false, false, false, false, false, false, false] rfl rfl (any_of HT_.out (by kernel_rfl)) (fun _ _ _ h => h) (Or.inl ⟨by rfl, ?_⟩) ?_ ?_
 rotate_left
 ·intro w'
  go_simp
  with_reducible rfl
 rotate_left
 ·simp only [Act.put, List.setIfInBounds_toArray, List.set_cons_zero, List.set_cons_succ, i64_w, i32_w]
  rfl
 refine take_ (i := 1) (N := some 6) (v := ?_) (a' := ?_) #[true, true, true, false, true, false, false, false, false, false, false, false] rfl rfl (take_ofW HT_.out HW_.out (by kernel_rfl)) (fun _ _ _ h => h) (Or.inl ⟨by rfl, ?_⟩) hHeld ?_ ?_
 rotate_left
 ·rintro w' ⟨s0, s1, s2⟩
  go_simp
  with_reducible rfl
 rotate_left
 ·simp only [Act.put, List.setIfInBounds_toArray, List.set_cons_zero, List.set_cons_succ, i64_w, i32_w]
  rfl
 refine take_ (i := 3) (N := some 8) (v := ?_) (a' := ?_) #[true, true, true, true, true, false, false, false, false, false, false, false] rfl rfl (take_ofW HT_.out HW_.out (by kernel_rfl)) (fun _ _ _ h => h) (Or.inl ⟨by rfl, ?_⟩) hHeld ?_ ?_
 rotate_left
 ·rintro w' ⟨s0, s1, s2⟩
  go_simp
  with_reducible rfl
 rotate_left
 ·simp only [Act.put, List.setIfInBounds_toArray, List.set_cons_zero, List.set_cons_succ, i64_w, i32_w]
  rfl
 refine take_ (i := 5) (N := some 10) (v := ?_) (a' := ?_) #[true, true, true, true, true, true, false, false, false, false, false, false] rfl rfl (take_ofW HT_.out HW_.out (by kernel_rfl)) (fun _ _ _ h => h) (Or.inl ⟨by rfl, ?_⟩) hHeld ?_ ?_
 rotate_left
 ·rintro w' ⟨s0, s1, s2⟩
  go_simp
  with_reducible rfl
 rotate_left
 ·simp only [Act.put, List.setIfInBounds_toArray, List.set_cons_zero, List.set_cons_succ, i64_w, i32_w]
  rfl
 refine pure_ (i := 6) (N := some 11) (v := ?_) (a' := ?_) #[true, true, true, true, true, true, true, false, false, false, false, false] rfl rfl (any_of HT_.out (by kernel_rfl)) (fun _ _ _ h => h) (Or.inl ⟨by rfl, ?_⟩) ?_ ?_
 rotate_left
 ·intro w'
  go_simp
  with_reducible rfl
 rotate_left
 ·simp only [Act.put, List.setIfInBounds_toArray, List.set_cons_zero, List.set_cons_succ, i64_w, i32_w]
  rfl
 refine pure_ (i := 7) (N := some 12) (v := ?_) (a' := ?_) #[true, true, true, true, true, true, true, true, false, false, false, false] rfl rfl (any_of HT_.out (by kernel_rfl)) (fun _ _ _ h => h) (Or.inl ⟨by rfl, ?_⟩) ?_ ?_
 rotate_left
 ·intro w'
  go_simp
  with_reducible rfl
 rotate_left
 ·simp only [Act.put, List.setIfInBounds_toArray, List.set_cons_zero, List.set_cons_succ, i64_w, i32_w]
  rfl
 refine pure_ (i := 8) (N := some 13) (v := ?_) (a' := ?_) #[true, true, true, true, true, true, true, true, true, false, false, false] rfl rfl (any_of HT_.out (by kernel_rfl)) (fun _ _ _ h => h) (Or.inl ⟨by rfl, ?_⟩) ?_ ?_
 rotate_left
 ·intro w'
  go_simp
  with_reducible rfl
 rotate_left
 ·simp only [Act.put, List.setIfInBounds_toArray, List.set_cons_zero, List.set_cons_succ, i64_w, i32_w]
  rfl
 refine pure_ (i := 9) (N := some 14) (v := ?_) (a' := ?_) #[true, true, true, true, true, true, true, true, true, true, false, false] rfl rfl (any_of HT_.out (by kernel_rfl)) (fun _ _ _ h => h) (Or.inl ⟨by rfl, ?_⟩) ?_ ?_
 rotate_left
 ·intro w'
  go_simp
  with_reducible rfl
 rotate_left
 ·simp only [Act.put, List.setIfInBounds_toArray, List.set_cons_zero, List.set_cons_succ, i64_w, i32_w]
  rfl
 refine one_ (i := 10) (N := some 3) #[true, true, true, true, true, true, true, true, true, true, true, false] rfl rfl (one_of HT_.out (by kernel_rfl)) (by decide) (fun K hK => ?_)
 refine box_step ?hg (N := 3) ?hd (cs := #[.bool false, .slice none 0 0, .string (⟨#[]⟩ : ByteArray)]) (t := 55) ?hr ?_; (case hd => rfl); (case hg => rfl); (case hr => first | (go_simp; done) | (go_simp; rfl))
 intro gb548 hg w12 hbox hb
 have n0_ := Aside0.mk (blk_below (g := gb546) (o := .cells #[.bool a0_0, .slice A0_1 l0_1.length c0_1, .string a0_2] 55 (0, 0)) (by (with_reducible repeat (first | refine blk_drewN ?_ _ | refine blk_drew ?_ | refine blk_alloc ?_ _)); exact BK546.out) hb)
 have n1_ := Aside0.mk (blk_below (g := gb547) (o := .cells #[.bool false, .slice none 0 0, .string (⟨#[]⟩ : ByteArray)] 55 (0, 0)) (by (with_reducible repeat (first | refine blk_drewN ?_ _ | refine blk_drew ?_ | refine blk_alloc ?_ _)); exact BK547.out) hb)
 have n2_ := Aside0.mk (below_step (by repeat (first | (with_reducible first | exact HB.out | apply below_alloc | apply pw_below_drewN | apply below_drew1 | refine below_set ?_ GE546.out | refine below_set ?_ GE547.out) | exact HB.out)) hb)
 have n3_ := Aside0.mk (hbox)
 have n4_ := Aside0.mk ((by rw [hg]; exact (below_size (by repeat (first | (with_reducible first | exact HB.out | apply below_alloc | apply pw_below_drewN | apply below_drew1 | refine below_set ?_ GE546.out | refine below_set ?_ GE547.out) | exact HB.out))) : w.heap.size ≤ gb548))
 have n5_ := Aside0.mk ((by rw [hg]; exact (below_size (by repeat (first | (with_reducible first | exact HB.out | apply below_alloc | apply pw_below_drewN | apply below_drew1 | refine below_set ?_ GE546.out | refine below_set ?_ GE547.out) | exact HB.out))) : w.heap.size ≤ gb548))
 have n6_ := Aside0.mk ((by rw [hg]; exact Nat.ne_of_lt (blk_lt (g := gb546) (o := .cells #[.bool a0_0, .slice A0_1 l0_1.length c0_1, .string a0_2] 55 (0, 0)) (by (with_reducible repeat (first | refine blk_drewN ?_ _ | refine blk_drew ?_ | refine blk_alloc ?_ _)); exact BK546.out)) : gb546 ≠ gb548))
 have n7_ := Aside0.mk ((by rw [hg]; exact Nat.ne_of_gt (blk_lt (g := gb546) (o := .cells #[.bool a0_0, .slice A0_1 l0_1.length c0_1, .string a0_2] 55 (0, 0)) (by (with_reducible repeat (first | refine blk_drewN ?_ _ | refine blk_drew ?_ | refine blk_alloc ?_ _)); exact BK546.out)) : gb548 ≠ gb546))
 have n8_ := Aside0.mk ((by rw [hg]; exact Nat.ne_of_lt (blk_lt (g := gb547) (o := .cells #[.bool false, .slice none 0 0, .string (⟨#[]⟩ : ByteArray)] 55 (0, 0)) (by (with_reducible repeat (first | refine blk_drewN ?_ _ | refine blk_drew ?_ | refine blk_alloc ?_ _)); exact BK547.out)) : gb547 ≠ gb548))
 have n9_ := Aside0.mk ((by rw [hg]; exact Nat.ne_of_gt (blk_lt (g := gb547) (o := .cells #[.bool false, .slice none 0 0, .string (⟨#[]⟩ : ByteArray)] 55 (0, 0)) (by (with_reducible repeat (first | refine blk_drewN ?_ _ | refine blk_drew ?_ | refine blk_alloc ?_ _)); exact BK547.out)) : gb548 ≠ gb547))
 clear BK546
 clear BK547
 clear HB
 have BK546 := n0_
 have BK547 := n1_
 have HB := n2_
 have BK548 := n3_
 have GW548 := n4_
 have GE548 := n5_
 have NB546_548 := n6_
 have NB548_546 := n7_
 have NB547_548 := n8_
 have NB548_547 := n9_
 clear n0_ n1_ n2_ n3_ n4_ n5_ n6_ n7_ n8_ n9_
 clear hb hbox hg
 refine hK.out _ _ ⟨(blk_cell BK546.out 0).trans rfl, (blk_cell BK546.out 1).trans rfl, (blk_cell BK546.out 2).trans rfl⟩ (fun hHeld => ?_)
 clear hK K
 refine norm_ (a' := ?_) ?_ ?_
 rotate_left
 ·show Act.put _ (some 3) _ = _
  simp only [Act.put, List.setIfInBounds_toArray, List.set_cons_zero, List.set_cons_succ, i64_w, i32_w]
  rfl
 refine one_ (i := 11) (N := none) #[true, true, true, true, true, true, true, true, true, true, true, true] rfl rfl (one_of HT_.out (by kernel_rfl)) (by decide) (fun K hK => ?_)
 have hs13 : w12.cell? ⟨gb548, 0, none⟩ = some (.bool false) := (blk_cell BK548.out 0).trans rfl
 have hfs13 := blk_frozen BK548.out 0
 have hns13_0 := NB546_548.out
 have hns13_1 := NB547_548.out
 have hms13_0 := NB548_546.out
 have hms13_1 := NB548_547.out
 have hs14 : w12.cell? ⟨gb548, 1, none⟩ = some (.slice none 0 0) := (blk_cell BK548.out 1).trans rfl
 have hfs14 := blk_frozen BK548.out 1
 have hns14_0 := NB546_548.out
 have hns14_1 := NB547_548.out
 have hms14_0 := NB548_546.out
 have hms14_1 := NB548_547.out
 have hs15 : w12.cell? ⟨gb548, 2, none⟩ = some (.string (⟨#[]⟩ : ByteArray)) := (blk_cell BK548.out 2).trans rfl
 have hfs15 := blk_frozen BK548.out 2
 have hns15_0 := NB546_548.out
 have hns15_1 := NB547_548.out
 have hms15_0 := NB548_546.out
 have hms15_1 := NB548_547.out
 refine skip_ (w1 := ?_) (by rfl) rfl ?_ ?_
 rotate_left
 ·go_simp
  rfl
 refine hK.out _ _ ⟨((cell_far (p := ⟨gb548, _, none⟩) NB546_548.out _).trans (((cell_far (p := ⟨gb548, _, none⟩) NB546_548.out _).trans (((cell_far (p := ⟨gb548, _, none⟩) NB546_548.out _).trans (hHeld.1)))))), ((cell_far (p := ⟨gb548, _, none⟩) NB546_548.out _).trans (((cell_far (p := ⟨gb548, _, none⟩) NB546_548.out _).trans (((cell_far (p := ⟨gb548, _, none⟩) NB546_548.out _).trans (hHeld.2.1)))))), ((cell_far (p := ⟨gb548, _, none⟩) NB546_548.out _).trans (((cell_far (p := ⟨gb548, _, none⟩) NB546_548.out _).trans (((cell_far (p := ⟨gb548, _, none⟩) NB546_548.out _).trans (hHeld.2.2))))))⟩ (fun hHeld => ?_)
 clear hK K
 refine done_ (done_of HT_.out (by kernel_rfl)) ?_
 have n0_ : Aside0 ((((w12.setCell ⟨gb548, 0, none⟩ (.bool a0_0)).setCell ⟨gb548, 1, none⟩ (.slice none 0 0)).setCell ⟨gb548, 2, none⟩ (.string (a0_2.extract 0 ((ji2) : Int).toNat))).heap[gb546]? = some (.cells #[.bool a0_0, .slice A0_1 l0_1.length c0_1, .string a0_2] 55 (0, 0))) := ⟨by (with_reducible repeat (first | refine blk_drewN ?_ _ | refine blk_drew ?_ | refine blk_alloc ?_ _)); refine blk_far ?_ NB546_548.out _; (with_reducible repeat (first | refine blk_drewN ?_ _ | refine blk_drew ?_ | refine blk_alloc ?_ _)); refine blk_far ?_ NB546_548.out _; (with_reducible repeat (first | refine blk_drewN ?_ _ | refine blk_drew ?_ | refine blk_alloc ?_ _)); refine blk_far ?_ NB546_548.out _; (with_reducible repeat (first | refine blk_drewN ?_ _ | refine blk_drew ?_ | refine blk_alloc ?_ _)); exact BK546.out⟩
 have n1_ : Aside0 ((((w12.setCell ⟨gb548, 0, none⟩ (.bool a0_0)).setCell ⟨gb548, 1, none⟩ (.slice none 0 0)).setCell ⟨gb548, 2, none⟩ (.string (a0_2.extract 0 ((ji2) : Int).toNat))).heap[gb547]? = some (.cells #[.bool false, .slice none 0 0, .string (⟨#[]⟩ : ByteArray)] 55 (0, 0))) := ⟨by (with_reducible repeat (first | refine blk_drewN ?_ _ | refine blk_drew ?_ | refine blk_alloc ?_ _)); refine blk_far ?_ NB547_548.out _; (with_reducible repeat (first | refine blk_drewN ?_ _ | refine blk_drew ?_ | refine blk_alloc ?_ _)); refine blk_far ?_ NB547_548.out _; (with_reducible repeat (first | refine blk_drewN ?_ _ | refine blk_drew ?_ | refine blk_alloc ?_ _)); refine blk_far ?_ NB547_548.out _; (with_reducible repeat (first | refine blk_drewN ?_ _ | refine blk_drew ?_ | refine blk_alloc ?_ _)); exact BK547.out⟩
 have n2_ : Aside0 ((((w12.setCell ⟨gb548, 0, none⟩ (.bool a0_0)).setCell ⟨gb548, 1, none⟩ (.slice none 0 0)).setCell ⟨gb548, 2, none⟩ (.string (a0_2.extract 0 ((ji2) : Int).toNat))).heap[gb548]? = some (.cells #[.bool a0_0, .slice none 0 0, .string (a0_2.extract 0 ((ji2) : Int).toNat)] 55 (0, 0))) := ⟨by (with_reducible repeat (first | refine blk_drewN ?_ _ | refine blk_drew ?_ | refine blk_alloc ?_ _)); refine blk_put (cs := #[.bool a0_0, .slice none 0 0, .string (⟨#[]⟩ : ByteArray)]) ?_ 2 _ rfl; (with_reducible repeat (first | refine blk_drewN ?_ _ | refine blk_drew ?_ | refine blk_alloc ?_ _)); refine blk_put (cs := #[.bool a0_0, .slice none 0 0, .string (⟨#[]⟩ : ByteArray)]) ?_ 1 _ rfl; (with_reducible repeat (first | refine blk_drewN ?_ _ | refine blk_drew ?_ | refine blk_alloc ?_ _)); refine blk_put (cs := #[.bool false, .slice none 0 0, .string (⟨#[]⟩ : ByteArray)]) ?_ 0 _ rfl; (with_reducible repeat (first | refine blk_drewN ?_ _ | refine blk_drew ?_ | refine blk_alloc ?_ _)); exact BK548.out⟩
 have n3_ : Aside0 (Below w.heap.size w (((w12.setCell ⟨gb548, 0, none⟩ (.bool a0_0)).setCell ⟨gb548, 1, none⟩ (.slice none 0 0)).setCell ⟨gb548, 2, none⟩ (.string (a0_2.extract 0 ((ji2) : Int).toNat)))) := ⟨by repeat (first | (with_reducible first | exact HB.out | apply below_alloc | apply pw_below_drewN | apply below_drew1 | refine below_set ?_ GE546.out | refine below_set ?_ GE547.out | refine below_set ?_ GE548.out) | exact HB.out)⟩
 (try clear BK546)
 (try clear BK547)
 (try clear BK548)
 (try clear HB)
 generalize (((w12.setCell ⟨gb548, 0, none⟩ (.bool a0_0)).setCell ⟨gb548, 1, none⟩ (.slice none 0 0)).setCell ⟨gb548, 2, none⟩ (.string (a0_2.extract 0 ((ji2) : Int).toNat))) = w16 at n0_ n1_ n2_ n3_ ⊢
 have BK546 := n0_
 have BK547 := n1_
 have BK548 := n2_
 have HB := n3_
 clear n0_ n1_ n2_ n3_
 have hnb17 := NB548_546.out
 have hnc17 := NB546_548.out
 have hnb18 := NB548_547.out
 have hnc18 := NB547_548.out
 have hcz19_0 : w16.cell? ⟨gb548, 0, none⟩ = some (.bool a0_0) := (blk_cell BK548.out 0).trans rfl
 have hcz19_1 : w16.cell? ⟨gb548, 1, none⟩ = some (.slice none 0 0) := (blk_cell BK548.out 1).trans rfl
 have hcz19_2 : w16.cell? ⟨gb548, 2, none⟩ = some (.string (a0_2.extract 0 ((ji2) : Int).toNat)) := (blk_cell BK548.out 2).trans rfl
 have hfz19_0 := blk_frozen BK548.out 0
 have hfz19_1 := blk_frozen BK548.out 1
 have hfz19_2 := blk_frozen BK548.out 2
 have hnb20 := NB546_547.out
 have hnc20 := NB547_546.out
 have hcz21_0 : w16.cell? ⟨gb546, 0, none⟩ = some (.bool a0_0) := (blk_cell BK546.out 0).trans rfl
 have hcz21_1 : w16.cell? ⟨gb546, 1, none⟩ = some (.slice A0_1 l0_1.length c0_1) := (blk_cell BK546.out 1).trans rfl
 have hcz21_2 : w16.cell? ⟨gb546, 2, none⟩ = some (.string a0_2) := (blk_cell BK546.out 2).trans rfl
 have hfz21_0 := blk_frozen BK546.out 0
 have hfz21_1 := blk_frozen BK546.out 1
 have hfz21_2 := blk_frozen BK546.out 2
 have q22 : ((ji5) : Int) ≤ ((l0_1.length : Int) : Int) := of_decide_eq_true (by first | (with_reducible assumption) | assumption)
 obtain ⟨i022, hi022, _, hsz22, _⟩ := info_parts info23
 have hroom22 : l0_1.length ≤ c0_1 := HC0_1.out
 have hC22 : Kd.C k23 _ A0_1 l0_1.length l0_1 := HR0_1.out
 have hcut22 := cut_to (P := Try.prog) 48 23 .i64 Try.underlying48 hi022 A0_1 l0_1.length c0_1 (ji5) (of_decide_eq_true (by first | (with_reducible assumption) | assumption)) q22 hroom22
 have hr22 := Kd.C_take (m := ((ji5) : Int).toNat) hC22 (by omega)
 have hy22 : y549.length = ((ji5) : Int).toNat := (by rw [Ny549.out, List.length_take]; omega)
 rw [← Ny549.out] at hr22
 rw [← hy22] at hcut22
 have HR552 := Aside0.mk hr22
 have HC552 := Aside0.mk (show y549.length ≤ c0_1 from by omega)
 clear hr22 hC22 hroom22 hi022 hsz22
 have KY22 := Aside0.mk hy22
 clear hy22
 replace q22 := eq_true q22
 try go_wp2_with (first | ((with_reducible refine gate_builtin (b := .append) (xs := #[.tmp 17, .tmp 24]) rfl ?_); at_builtin; refine Kd.R_append_rows k23 (w0 := w) w.heap.size rfl (.tmp 17) (.tmp 24) 48 23 (.agg #[(.int .i64 0), (.int .i64 0)]) 16 rfl Try.underlying48 info23 rfl (by decide) (by omega) (.slice none 0 0) ([] : List (S23)) y549 _ _ _ (fun _ => True) (fun _ => False) rfl rfl ?aO ?aR (fun _ _ h => h) (fun _ h => h.elim) ?aF ?aB ?aS ?aL ?_; (case aR => repeat (first | exact (Kd.C_below HR552.out HB.out) | (with_reducible refine Kd.C_alloc ?_ _) | (with_reducible refine Kd.C_drewN ?_ _) | (with_reducible refine Kd.C_drew ?_))); (case aB => exact (by repeat (first | (with_reducible first | exact HB.out | apply below_alloc | apply pw_below_drewN | apply below_drew1 | refine below_set ?_ GE546.out | refine below_set ?_ GE547.out | refine below_set ?_ GE548.out) | exact HB.out))); (case aF => exact (fun _ _ => trivial)); (case aO => exact ((Kd.R_nil _ _ _ _ (fun _ => True)))); (case aS => exact (below_size (by repeat (first | (with_reducible first | exact HB.out | apply below_alloc | apply pw_below_drewN | apply below_drew1 | refine below_set ?_ GE546.out | refine below_set ?_ GE547.out | refine below_set ?_ GE548.out) | exact HB.out)))); (case aL => have := LMc8.out; omega); intro v554 w23 ho hb hg hat; rw [← Ny553.out] at ho; have n0_ := Aside0.mk (blk_grown (g := gb546) (o := .cells #[.bool a0_0, .slice A0_1 l0_1.length c0_1, .string a0_2] 55 (0, 0)) (by (with_reducible repeat (first | refine blk_drewN ?_ _ | refine blk_drew ?_ | refine blk_alloc ?_ _)); exact BK546.out) hg (by simp [Value.ownBlock])); have n1_ := Aside0.mk (blk_grown (g := gb547) (o := .cells #[.bool false, .slice none 0 0, .string (⟨#[]⟩ : ByteArray)] 55 (0, 0)) (by (with_reducible repeat (first | refine blk_drewN ?_ _ | refine blk_drew ?_ | refine blk_alloc ?_ _)); exact BK547.out) hg (by simp [Value.ownBlock])); have n2_ := Aside0.mk (blk_grown (g := gb548) (o := .cells #[.bool a0_0, .slice none 0 0, .string (a0_2.extract 0 ((ji2) : Int).toNat)] 55 (0, 0)) (by (with_reducible repeat (first | refine blk_drewN ?_ _ | refine blk_drew ?_ | refine blk_alloc ?_ _)); exact BK548.out) hg (by simp [Value.ownBlock])); have n3_ := Aside0.mk (hb); have n4_ := Aside0.mk (ho); clear BK546; clear BK547; clear BK548; clear HB; have BK546 := n0_; have BK547 := n1_; have BK548 := n2_; have HB := n3_; have HO555 := n4_; clear n0_ n1_ n2_ n3_ n4_; clear ho hb hg hat; obtain ⟨Ao24, co24, eo24⟩ := Kd.R_slice HO555.out; subst eo24; have hcz25_0 : w23.cell? ⟨gb548, 0, none⟩ = some (.bool a0_0) := (blk_cell BK548.out 0).trans rfl; have hcz25_1 : w23.cell? ⟨gb548, 1, none⟩ = some (.slice none 0 0) := (blk_cell BK548.out 1).trans rfl; have hcz25_2 : w23.cell? ⟨gb548, 2, none⟩ = some (.string (a0_2.extract 0 ((ji2) : Int).toNat)) := (blk_cell BK548.out 2).trans rfl; have hfz25_0 := blk_frozen BK548.out 0; have hfz25_1 := blk_frozen BK548.out 1; have hfz25_2 := blk_frozen BK548.out 2; have hcz26_0 : w23.cell? ⟨gb547, 0, none⟩ = some (.bool false) := (blk_cell BK547.out 0).trans rfl; have hcz26_1 : w23.cell? ⟨gb547, 1, none⟩ = some (.slice none 0 0) := (blk_cell BK547.out 1).trans rfl; have hcz26_2 : w23.cell? ⟨gb547, 2, none⟩ = some (.string (⟨#[]⟩ : ByteArray)) := (blk_cell BK547.out 2).trans rfl; have hfz26_0 := blk_frozen BK547.out 0; have hfz26_1 := blk_frozen BK547.out 1; have hfz26_2 := blk_frozen BK547.out 2))
 refine bodyPost_ret (results_cell_row rfl _ _ gb547 55 #[.bool a0_0, .slice Ao24 y553.length co24, .string (a0_2.extract 0 ((ji2) : Int).toNat)] (0, 0) _ rfl (by (with_reducible repeat (first | refine blk_drewN ?_ _ | refine blk_drew ?_ | refine blk_alloc ?_ _)); refine blk_put (cs := #[.bool a0_0, .slice Ao24 y553.length co24, .string (⟨#[]⟩ : ByteArray)]) ?_ 2 _ rfl; (with_reducible repeat (first | refine blk_drewN ?_ _ | refine blk_drew ?_ | refine blk_alloc ?_ _)); refine blk_put (cs := #[.bool a0_0, .slice none 0 0, .string (⟨#[]⟩ : ByteArray)]) ?_ 1 _ rfl; (with_reducible repeat (first | refine blk_drewN ?_ _ | refine blk_drew ?_ | refine blk_alloc ?_ _)); refine blk_put (cs := #[.bool false, .slice none 0 0, .string (⟨#[]⟩ : ByteArray)]) ?_ 0 _ rfl; (with_reducible repeat (first | refine blk_drewN ?_ _ | refine blk_drew ?_ | refine blk_alloc ?_ _)); refine blk_far ?_ NB547_548.out _; (with_reducible repeat (first | refine blk_drewN ?_ _ | refine blk_drew ?_ | refine blk_alloc ?_ _)); exact BK547.out) Try.underlying55 rfl (by kernel_rfl)) rfl ?_
 exact ⟨_, by first | rfl | (simp [errW_none, errW_some] <;> rfl) | (simp only [← hji2, ← hji5]; first | rfl | (simp [errW_none, errW_some] <;> rfl)) | (simp [*, errW_none, errW_some] <;> rfl), by (with_reducible repeat (first | apply Kd.R_alloc | apply Kd.R_drewN | apply Kd.R_drew)); exact Kd.R_mono (Kd.R_far (p := ⟨gb547, 2, none⟩) (Kd.R_far (p := ⟨gb547, 1, none⟩) (Kd.R_far (p := ⟨gb547, 0, none⟩) (Kd.R_far (p := ⟨gb548, 1, none⟩) (Kd.R_types (Kd.R_types HO555.out BK548.out (by decide)) BK547.out (by decide)) (fun _ hk => hk.1.2) (.slice Ao24 y553.length co24)) (fun _ hk => hk.2) (.bool a0_0)) (fun _ hk => hk.2) (.slice Ao24 y553.length co24)) (fun _ hk => hk.2) (.string (a0_2.extract 0 ((ji2) : Int).toNat))) (fun _ hk => trivial), by repeat (first | (with_reducible first | exact HB.out | apply below_alloc | apply pw_below_drewN | apply below_drew1 | refine below_set ?_ GE546.out | refine below_set ?_ GE547.out | refine below_set ?_ GE548.out) | exact HB.out)⟩
end Go.Proofs.Ytnfmeafiaipplaa.S
