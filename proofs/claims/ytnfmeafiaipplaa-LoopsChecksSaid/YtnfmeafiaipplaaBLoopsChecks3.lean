-- Written by wip/bundle2.py: texts of this claim, one behind the other.
import Derived.Test.YtnfmeafiaipplaaBLoopsChecks2
import Derived.Maps.RangeRun
import Derived.Scope
import Derived.Laws.IdiomStrings
set_option linter.unusedVariables false
set_option linter.unusedSimpArgs false

namespace Go.Proofs.Ytnfmeafiaipplaa.S
open Go.Proofs.Ytnfmeafiaipplaa.Lib
open Go.Maps (Keyed)
open Go.RowKit Go.Proofs.YtnfmeafiaipplaaW.PrintWords Go.Proofs.YtnfmeafiaipplaaW.PrintLast Go.Proofs.YtnfmeafiaipplaaW.PrintMore
attribute [local go_sem] max2_int min2_int max_two min_two max_three min_three max_four min_four
set_option linter.unusedVariables false
set_option linter.unusedSimpArgs false

mutual
def tickingref06_Refutes.l0 : Nat → List (S39) → Int → Int → ByteArray → Int → Option (Bool)
 | 0, _, _, _, _, _ => none
 | k + 1, x0, x1, x2, x3, x9 => if x9 ≤ (x3.size : Int) then (if 0 ≤ x1 then (if x1 < (x0.length : Int) then (if 0 ≤ x2 then (if x2 < (x0.length : Int) then (if ((rd_T39 x0 x1).f0) = 0 then (tickingref06_Refutes.j1 k x0 x3 x9 true ((rd_T39 x0 x1).f0) ((rd_T39 x0 x1).f1) ((rd_T39 x0 x1).f2) ((rd_T39 x0 x2).f0) ((rd_T39 x0 x2).f1) ((rd_T39 x0 x2).f2)) else (tickingref06_Refutes.j1 k x0 x3 x9 (((rd_T39 x0 x2).f0) == 1) ((rd_T39 x0 x1).f0) ((rd_T39 x0 x1).f1) ((rd_T39 x0 x1).f2) ((rd_T39 x0 x2).f0) ((rd_T39 x0 x2).f1) ((rd_T39 x0 x2).f2))) else (none)) else (none)) else (none)) else (none)) else (some false)
def tickingref06_Refutes.j1 : Nat → List (S39) → ByteArray → Int → Bool → Int → Int → Int → Int → Int → Int → Option (Bool)
 | 0, _, _, _, _, _, _, _, _, _, _ => none
 | k + 1, x0, x3, x9, x33, x467000, x467001, x467002, x468000, x468001, x468002 => if x33 = true then (some false) else (if x9 = (x3.size : Int) then (some (x467000 != x468000)) else (if x467000 = x468000 then (if x467000 < 4 then (tickingref06_Refutes.j2 k x0 x3 x9 true x467000 x467001 x467002 x468000 x468001 x468002) else (if 0 ≤ x9 then (if x9 < (x3.size : Int) then (if (bt x3 x9) = 97 then (tickingref06_Refutes.j2 k x0 x3 x9 false x467000 x467001 x467002 x468000 x468001 x468002) else (tickingref06_Refutes.j2 k x0 x3 x9 ((bt x3 x9) != 98) x467000 x467001 x467002 x468000 x468001 x468002)) else (none)) else (none))) else (tickingref06_Refutes.j2 k x0 x3 x9 true x467000 x467001 x467002 x468000 x468001 x468002)))
def tickingref06_Refutes.j2 : Nat → List (S39) → ByteArray → Int → Bool → Int → Int → Int → Int → Int → Int → Option (Bool)
 | 0, _, _, _, _, _, _, _, _, _, _ => none
 | k + 1, x0, x3, x9, x64, x467000, x467001, x467002, x468000, x468001, x468002 => if x64 = true then (some false) else (if 0 ≤ x9 then (if x9 < (x3.size : Int) then (if (bt x3 x9) = 98 then (tickingref06_Refutes.l0 k x0 x467002 x468002 x3 (wrap64 (x9 + 1))) else (if x467000 = 4 then (tickingref06_Refutes.l0 k x0 x467001 x468001 x3 (wrap64 (x9 + 1))) else (tickingref06_Refutes.l0 k x0 x468001 x467001 x3 (wrap64 (x9 + 1))))) else (none)) else (none))
end
def tickingref06_Refutes.f (k : Nat) (l0 : List (S39)) (a1 : Int) (a2 : Int) (a3 : ByteArray) : Option (Bool) := tickingref06_Refutes.l0 k l0 a1 a2 a3 0
def tickingref06_Refutes.T4 : Bool × List (List Nat × List Nat) := (true, [([], []), ([], []), ([0, 1], [0, 1]), ([2], [2]), ([], []), ([], []), ([4, 5], [4, 5]), ([6], [6]), ([], []), ([], []), ([8, 3, 0, 1, 2, 3, 8, 9], [3, 8]), ([9, 7, 10, 0, 1, 2, 3, 4, 5, 6, 7, 8, 9, 10], [7, 9])])
def tickingref06_Refutes.B4 : List Nat := [0, 0, 3, 7, 0, 0, 48, 112, 0, 0, 783, 2047]
theorem tickingref06_Refutes.tab4 : rtab .any (opsOf Try.f54 4) = tickingref06_Refutes.T4 := by kernel_rfl
theorem tickingref06_Refutes.bits4 : waitsOk tickingref06_Refutes.T4.2 tickingref06_Refutes.B4 = true := by kernel_rfl
set_option maxHeartbeats 8000000 in
set_option maxRecDepth 100000 in
theorem tickingref06_Refutes.calls (k : Nat) (A0 : Option Addr) (c0 : Nat) (l0 : List (S39)) (a1 : Int) (a2 : Int) (a3 : ByteArray) (r : Bool) (w : World) (hr0 : Kd.C k39 w A0 l0.length l0) (hc0 : l0.length ≤ c0) (h : tickingref06_Refutes.f k l0 a1 a2 a3 = some r) :
  Calls Try.prog 54 #[.slice A0 l0.length c0, .int .i64 a1, .int .i64 a2, .string a3] w fun e w' => e = .returned (.bool r) ∧ Below w.heap.size w w' := by
 have hu39 := Try.underlying39
 have HR0 := Aside0.mk hr0
 have HC0 := Aside0.mk hc0
 clear hr0 hc0
 have HB := Aside0.mk (Below.refl w.heap.size w)
 have H : (tickingref06_Refutes.l0 k l0 a1 a2 a3 0) = some r := h
 clear h
 have H' := Aside0.mk H
 clear H
 go_enter Try.func54, Try.ntmps54
 go_wp2
 go_loopg [1, 2, 9] k (fun kq v1 v2 v9 w' => ∃ (x1_1 : Int) (x2_1 : Int) (x9_1 : Int), v1 = .int .i64 x1_1 ∧ v2 = .int .i64 x2_1 ∧ v9 = .int .i64 x9_1 ∧ Aside0 (tickingref06_Refutes.l0 kq l0 x1_1 x2_1 a3 x9_1 = some r) ∧ Aside0 (kq ≤ k) ∧ Aside0 (Below w.heap.size w w'))
 case atStart => exact ⟨(a1), (a2), (0), (by first | rfl | (simp; done) | (simp [*]; done)), (by first | rfl | (simp; done) | (simp [*]; done)), (by first | rfl | (simp; done) | (simp [*]; done)), H', ⟨Nat.le_refl _⟩, ⟨by repeat (first | (with_reducible first | exact HB.out | apply below_alloc | apply pw_below_drewN | apply below_drew1) | exact HB.out)⟩⟩
 clear H'
 try clear p2
 obtain ⟨x1_1, x2_1, x9_1, rfl, rfl, rfl, HA, HK1, HB⟩ := hrel
 cases gk with
 | zero => exact absurd HA.out (by simp [tickingref06_Refutes.l0])
 | succ k1 =>
  have H := HA.out
  clear HA
  simp only [tickingref06_Refutes.l0] at H
  by_cases c5 : x9_1 ≤ (a3.size : Int)
  rotate_left
  ·rw [if_neg c5] at H
   have c5b0 : decide (x9_1 ≤ (a3.size : Int)) = false := decide_eq_false c5
   clear c5
   obtain rfl := Option.some.inj H
   go_wp2
   go_ret
   exact ⟨by first | rfl | (simp [errW_none, errW_some] <;> rfl) | (simp [*, errW_none, errW_some] <;> rfl), by repeat (first | (with_reducible first | exact HB.out | apply below_alloc | apply pw_below_drewN | apply below_drew1) | exact HB.out)⟩
  rw [if_pos c5] at H
  have c5b0 : decide (x9_1 ≤ (a3.size : Int)) = true := decide_eq_true c5
  clear c5
  by_cases c6 : 0 ≤ x1_1
  rotate_left
  ·rw [if_neg c6] at H
   exact absurd H (by simp)
  rw [if_pos c6] at H
  have c6b0 : decide (0 ≤ x1_1) = true := decide_eq_true c6
  clear c6
  by_cases c7 : x1_1 < (l0.length : Int)
  rotate_left
  ·rw [if_neg c7] at H
   exact absurd H (by simp)
  rw [if_pos c7] at H
  have c7b0 : decide (x1_1 < (l0.length : Int)) = true := decide_eq_true c7
  clear c7
  by_cases c8 : 0 ≤ x2_1
  rotate_left
  ·rw [if_neg c8] at H
   exact absurd H (by simp)
  rw [if_pos c8] at H
  have c8b0 : decide (0 ≤ x2_1) = true := decide_eq_true c8
  clear c8
  by_cases c9 : x2_1 < (l0.length : Int)
  rotate_left
  ·rw [if_neg c9] at H
   exact absurd H (by simp)
  rw [if_pos c9] at H
  have c9b0 : decide (x2_1 < (l0.length : Int)) = true := decide_eq_true c9
  clear c9
  have HC10 := Aside0.mk H
  clear H
  try go_wp2
  have n0_ := Aside0.mk (below_drew1 HB.out)
  clear HB
  have HB := n0_
  clear n0_
  have p464 : 0 ≤ (x1_1 : Int) := of_decide_eq_true (by first | (with_reducible assumption) | assumption)
  have q464 : x1_1 < (l0.length : Int) := of_decide_eq_true (by first | (with_reducible assumption) | assumption)
  obtain ⟨ad464, e464, hx464_0, hx464_1, hx464_2⟩ := at_T39 HR0.out x1_1 p464 q464
  have hw464_2 := hx464_2
  have hw464_1 := hx464_1
  have hw464_0 := hx464_0
  cases e464
  replace hx464_0 := (HB.out.cell (World.block_lt_of_cell? w _ hx464_0)).trans hx464_0
  replace hx464_1 := (HB.out.cell (World.block_lt_of_cell? w _ hx464_1)).trans hx464_1
  replace hx464_2 := (HB.out.cell (World.block_lt_of_cell? w _ hx464_2)).trans hx464_2
  replace p464 := eq_true p464
  replace q464 := eq_true q464
  have p465 : 0 ≤ (x2_1 : Int) := of_decide_eq_true (by first | (with_reducible assumption) | assumption)
  have q465 : x2_1 < (l0.length : Int) := of_decide_eq_true (by first | (with_reducible assumption) | assumption)
  obtain ⟨ad465, e465, hx465_0, hx465_1, hx465_2⟩ := at_T39 HR0.out x2_1 p465 q465
  have hw465_2 := hx465_2
  have hw465_1 := hx465_1
  have hw465_0 := hx465_0
  obtain rfl : ad464 = ad465 := (by injection e465)
  replace hx465_0 := (HB.out.cell (World.block_lt_of_cell? w _ hx465_0)).trans hx465_0
  replace hx465_1 := (HB.out.cell (World.block_lt_of_cell? w _ hx465_1)).trans hx465_1
  replace hx465_2 := (HB.out.cell (World.block_lt_of_cell? w _ hx465_2)).trans hx465_2
  replace p465 := eq_true p465
  replace q465 := eq_true q465
  refine start_ (n := 12) (S := fun w' => w'.cell? (ad464.add ((x1_1).toNat * 3)) = some (.int .i64 ((rd_T39 l0 x1_1).f0)) ∧ w'.cell? ⟨(ad464.add ((x1_1).toNat * 3)).block, (ad464.add ((x1_1).toNat * 3)).off + 1, none⟩ = some (.int .i64 ((rd_T39 l0 x1_1).f1)) ∧ w'.cell? ⟨(ad464.add ((x1_1).toNat * 3)).block, (ad464.add ((x1_1).toNat * 3)).off + 2, none⟩ = some (.int .i64 ((rd_T39 l0 x1_1).f2)) ∧ w'.cell? (ad464.add ((x2_1).toNat * 3)) = some (.int .i64 ((rd_T39 l0 x2_1).f0)) ∧ w'.cell? ⟨(ad464.add ((x2_1).toNat * 3)).block, (ad464.add ((x2_1).toNat * 3)).off + 1, none⟩ = some (.int .i64 ((rd_T39 l0 x2_1).f1)) ∧ w'.cell? ⟨(ad464.add ((x2_1).toNat * 3)).block, (ad464.add ((x2_1).toNat * 3)).off + 2, none⟩ = some (.int .i64 ((rd_T39 l0 x2_1).f2))) (ds := []) #[false, false, false, false, false, false, false, false, false, false, false, false] (by kernel_rfl) rfl rfl ⟨((HB.out.cell (World.block_lt_of_cell? w _ hw464_0)).trans hw464_0), ((HB.out.cell (World.block_lt_of_cell? w _ hw464_1)).trans hw464_1), ((HB.out.cell (World.block_lt_of_cell? w _ hw464_2)).trans hw464_2), ((HB.out.cell (World.block_lt_of_cell? w _ hw465_0)).trans hw465_0), ((HB.out.cell (World.block_lt_of_cell? w _ hw465_1)).trans hw465_1), ((HB.out.cell (World.block_lt_of_cell? w _ hw465_2)).trans hw465_2)⟩ (fun hHeld => ?_); refine with_tabW tickingref06_Refutes.tab4 tickingref06_Refutes.bits4 (fun HT_ HW_ => ?_)
  generalize wr.drew = w11 at HB hx464_0 hx464_1 hx464_2 hx465_0 hx465_1 hx465_2 hHeld ⊢
  refine pure_ (i := 0) (N := some 18) (v := ?_) (a' := ?_) #[true, false, false, false, false, false, false, false, false, false, false, false] rfl rfl (any_of HT_.out (by kernel_rfl)) (fun _ _ _ h => h) (Or.inl ⟨by rfl, ?_⟩) ?_ ?_
  rotate_left
  ·intro w'
   go_simp
   with_reducible rfl
  rotate_left
  ·simp only [Act.put, List.setIfInBounds_toArray, List.set_cons_zero, List.set_cons_succ, i64_w, i32_w]
   rfl
  refine pure_ (i := 1) (N := some 19) (v := ?_) (a' := ?_) #[true, true, false, false, false, false, false, false, false, false, false, false] rfl rfl (any_of HT_.out (by kernel_rfl)) (fun _ _ _ h => h) (Or.inl ⟨by rfl, ?_⟩) ?_ ?_
  rotate_left
  ·intro w'
   go_simp
   with_reducible rfl
  rotate_left
  ·simp only [Act.put, List.setIfInBounds_toArray, List.set_cons_zero, List.set_cons_succ, i64_w, i32_w]
   rfl
  refine pure_ (i := 2) (N := some 20) (v := ?_) (a' := ?_) #[true, true, true, false, false, false, false, false, false, false, false, false] rfl rfl (any_of HT_.out (by kernel_rfl)) (fun _ _ _ h => h) (Or.inl ⟨by rfl, ?_⟩) ?_ ?_
  rotate_left
  ·intro w'
   go_simp
   with_reducible rfl
  rotate_left
  ·simp only [Act.put, List.setIfInBounds_toArray, List.set_cons_zero, List.set_cons_succ, i64_w, i32_w]
   rfl
  refine pure_ (i := 4) (N := some 22) (v := ?_) (a' := ?_) #[true, true, true, false, true, false, false, false, false, false, false, false] rfl rfl (any_of HT_.out (by kernel_rfl)) (fun _ _ _ h => h) (Or.inl ⟨by rfl, ?_⟩) ?_ ?_
  rotate_left
  ·intro w'
   go_simp
   with_reducible rfl
  rotate_left
  ·simp only [Act.put, List.setIfInBounds_toArray, List.set_cons_zero, List.set_cons_succ, i64_w, i32_w]
   rfl
  refine pure_ (i := 5) (N := some 23) (v := ?_) (a' := ?_) #[true, true, true, false, true, true, false, false, false, false, false, false] rfl rfl (any_of HT_.out (by kernel_rfl)) (fun _ _ _ h => h) (Or.inl ⟨by rfl, ?_⟩) ?_ ?_
  rotate_left
  ·intro w'
   go_simp
   with_reducible rfl
  rotate_left
  ·simp only [Act.put, List.setIfInBounds_toArray, List.set_cons_zero, List.set_cons_succ, i64_w, i32_w]
   rfl
  refine pure_ (i := 6) (N := some 24) (v := ?_) (a' := ?_) #[true, true, true, false, true, true, true, false, false, false, false, false] rfl rfl (any_of HT_.out (by kernel_rfl)) (fun _ _ _ h => h) (Or.inl ⟨by rfl, ?_⟩) ?_ ?_
  rotate_left
  ·intro w'
   go_simp
   with_reducible rfl
  rotate_left
  ·simp only [Act.put, List.setIfInBounds_toArray, List.set_cons_zero, List.set_cons_succ, i64_w, i32_w]
   rfl
  refine take_ (i := 3) (N := some 21) (v := ?_) (a' := ?_) #[true, true, true, true, true, true, true, false, false, false, false, false] rfl rfl (take_ofW HT_.out HW_.out (by kernel_rfl)) (fun _ _ _ h => h) (Or.inl ⟨by rfl, ?_⟩) hHeld ?_ ?_
  rotate_left
  ·rintro w' ⟨s0, s1, s2, s3, s4, s5⟩
   go_simp
   with_reducible rfl
  rotate_left
  ·simp only [Act.put, List.setIfInBounds_toArray, List.set_cons_zero, List.set_cons_succ, i64_w, i32_w]
   rfl
  refine take_ (i := 7) (N := some 25) (v := ?_) (a' := ?_) #[true, true, true, true, true, true, true, true, false, false, false, false] rfl rfl (take_ofW HT_.out HW_.out (by kernel_rfl)) (fun _ _ _ h => h) (Or.inl ⟨by rfl, ?_⟩) hHeld ?_ ?_
  rotate_left
  ·rintro w' ⟨s0, s1, s2, s3, s4, s5⟩
   go_simp
   with_reducible rfl
  rotate_left
  ·simp only [Act.put, List.setIfInBounds_toArray, List.set_cons_zero, List.set_cons_succ, i64_w, i32_w]
   rfl
  refine join_ (σ := Nat × Nat) 2 #[true, true, true, true, true, true, true, true, true, true, false, false] (fun s_ => [(10, .pointer (some ⟨s_.1, 0, none⟩)), (11, .pointer (some ⟨s_.2, 0, none⟩))]) (fun s_ w' => (w'.cell? (ad464.add ((x1_1).toNat * 3)) = some (.int .i64 ((rd_T39 l0 x1_1).f0)) ∧ w'.cell? ⟨(ad464.add ((x1_1).toNat * 3)).block, (ad464.add ((x1_1).toNat * 3)).off + 1, none⟩ = some (.int .i64 ((rd_T39 l0 x1_1).f1)) ∧ w'.cell? ⟨(ad464.add ((x1_1).toNat * 3)).block, (ad464.add ((x1_1).toNat * 3)).off + 2, none⟩ = some (.int .i64 ((rd_T39 l0 x1_1).f2)) ∧ w'.cell? (ad464.add ((x2_1).toNat * 3)) = some (.int .i64 ((rd_T39 l0 x2_1).f0)) ∧ w'.cell? ⟨(ad464.add ((x2_1).toNat * 3)).block, (ad464.add ((x2_1).toNat * 3)).off + 1, none⟩ = some (.int .i64 ((rd_T39 l0 x2_1).f1)) ∧ w'.cell? ⟨(ad464.add ((x2_1).toNat * 3)).block, (ad464.add ((x2_1).toNat * 3)).off + 2, none⟩ = some (.int .i64 ((rd_T39 l0 x2_1).f2))) ∧ (w'.heap[s_.1]? = some (.cells #[.int .i64 0, .int .i64 0, .int .i64 0] 39 (0, 0))) ∧ (w'.heap[s_.2]? = some (.cells #[.int .i64 0, .int .i64 0, .int .i64 0] 39 (0, 0))) ∧ (w.heap.size ≤ s_.1) ∧ (w.heap.size ≤ s_.1) ∧ (s_.2 ≠ s_.1) ∧ (s_.1 ≠ s_.2) ∧ (w.heap.size ≤ s_.2) ∧ (w.heap.size ≤ s_.2) ∧ (Below w.heap.size w w')) ?_ ?_
  rotate_left
  ·intro hCont
   refine two_ (i := 8) (j := 9) (Ni := some 10) (Nj := some 11) #[true, true, true, true, true, true, true, true, true, false, false, false] #[true, true, true, true, true, true, true, true, false, true, false, false] rfl rfl rfl rfl (two_of HT_.out (by kernel_rfl)) (by decide) (by decide) (fun K hK => ?_) (fun K hK => ?_)
   ·skip
    refine box_step ?hg (N := 10) ?hd (cs := #[.int .i64 0, .int .i64 0, .int .i64 0]) (t := 39) ?hr ?_; (case hd => rfl); (case hg => rfl); (case hr => first | (go_simp; done) | (go_simp; rfl))
    intro gb466 hg w12 hbox hb
    have n0_ := Aside0.mk (below_step (by repeat (first | (with_reducible first | exact HB.out | apply below_alloc | apply pw_below_drewN | apply below_drew1) | exact HB.out)) hb)
    have n1_ := Aside0.mk (hbox)
    have n2_ := Aside0.mk ((by rw [hg]; exact (below_size (by repeat (first | (with_reducible first | exact HB.out | apply below_alloc | apply pw_below_drewN | apply below_drew1) | exact HB.out))) : w.heap.size ≤ gb466))
    have n3_ := Aside0.mk ((by rw [hg]; exact (below_size (by repeat (first | (with_reducible first | exact HB.out | apply below_alloc | apply pw_below_drewN | apply below_drew1) | exact HB.out))) : w.heap.size ≤ gb466))
    clear HB
    have HB := n0_
    have BK466 := n1_
    have GW466 := n2_
    have GE466 := n3_
    clear n0_ n1_ n2_ n3_
    clear hb hbox hg
    refine hK.out _ _ ⟨((HB.out.cell (World.block_lt_of_cell? w _ hw464_0)).trans hw464_0), ((HB.out.cell (World.block_lt_of_cell? w _ hw464_1)).trans hw464_1), ((HB.out.cell (World.block_lt_of_cell? w _ hw464_2)).trans hw464_2), ((HB.out.cell (World.block_lt_of_cell? w _ hw465_0)).trans hw465_0), ((HB.out.cell (World.block_lt_of_cell? w _ hw465_1)).trans hw465_1), ((HB.out.cell (World.block_lt_of_cell? w _ hw465_2)).trans hw465_2)⟩ (fun hHeld => ?_)
    clear hK K
    refine norm_ (a' := ?_) ?_ ?_
    rotate_left
    ·show Act.put _ (some 10) _ = _
     simp only [Act.put, List.setIfInBounds_toArray, List.set_cons_zero, List.set_cons_succ, i64_w, i32_w]
     rfl
    refine one_ (i := 9) (N := some 11) #[true, true, true, true, true, true, true, true, true, true, false, false] rfl rfl (one_of HT_.out (by kernel_rfl)) (by decide) (fun K hK => ?_)
    refine box_step ?hg (N := 11) ?hd (cs := #[.int .i64 0, .int .i64 0, .int .i64 0]) (t := 39) ?hr ?_; (case hd => rfl); (case hg => rfl); (case hr => first | (go_simp; done) | (go_simp; rfl))
    intro gb467 hg w13 hbox hb
    have n0_ := Aside0.mk (blk_below (g := gb466) (o := .cells #[.int .i64 0, .int .i64 0, .int .i64 0] 39 (0, 0)) (by (with_reducible repeat (first | refine blk_drewN ?_ _ | refine blk_drew ?_ | refine blk_alloc ?_ _)); exact BK466.out) hb)
    have n1_ := Aside0.mk (below_step (by repeat (first | (with_reducible first | exact HB.out | apply below_alloc | apply pw_below_drewN | apply below_drew1 | refine below_set ?_ GE466.out) | exact HB.out)) hb)
    have n2_ := Aside0.mk (hbox)
    have n3_ := Aside0.mk ((by rw [hg]; exact (below_size (by repeat (first | (with_reducible first | exact HB.out | apply below_alloc | apply pw_below_drewN | apply below_drew1 | refine below_set ?_ GE466.out) | exact HB.out))) : w.heap.size ≤ gb467))
    have n4_ := Aside0.mk ((by rw [hg]; exact (below_size (by repeat (first | (with_reducible first | exact HB.out | apply below_alloc | apply pw_below_drewN | apply below_drew1 | refine below_set ?_ GE466.out) | exact HB.out))) : w.heap.size ≤ gb467))
    have n5_ := Aside0.mk ((by rw [hg]; exact Nat.ne_of_lt (blk_lt (g := gb466) (o := .cells #[.int .i64 0, .int .i64 0, .int .i64 0] 39 (0, 0)) (by (with_reducible repeat (first | refine blk_drewN ?_ _ | refine blk_drew ?_ | refine blk_alloc ?_ _)); exact BK466.out)) : gb466 ≠ gb467))
    have n6_ := Aside0.mk ((by rw [hg]; exact Nat.ne_of_gt (blk_lt (g := gb466) (o := .cells #[.int .i64 0, .int .i64 0, .int .i64 0] 39 (0, 0)) (by (with_reducible repeat (first | refine blk_drewN ?_ _ | refine blk_drew ?_ | refine blk_alloc ?_ _)); exact BK466.out)) : gb467 ≠ gb466))
    clear BK466
    clear HB
    have BK466 := n0_
    have HB := n1_
    have BK467 := n2_
    have GW467 := n3_
    have GE467 := n4_
    have NB466_467 := n5_
    have NB467_466 := n6_
    clear n0_ n1_ n2_ n3_ n4_ n5_ n6_
    clear hb hbox hg
    refine hK.out _ _ ⟨((HB.out.cell (World.block_lt_of_cell? w _ hw464_0)).trans hw464_0), ((HB.out.cell (World.block_lt_of_cell? w _ hw464_1)).trans hw464_1), ((HB.out.cell (World.block_lt_of_cell? w _ hw464_2)).trans hw464_2), ((HB.out.cell (World.block_lt_of_cell? w _ hw465_0)).trans hw465_0), ((HB.out.cell (World.block_lt_of_cell? w _ hw465_1)).trans hw465_1), ((HB.out.cell (World.block_lt_of_cell? w _ hw465_2)).trans hw465_2)⟩ (fun hHeld => ?_)
    clear hK K
    refine norm_ (a' := ?_) ?_ ?_
    rotate_left
    ·show Act.put _ (some 11) _ = _
     simp only [Act.put, List.setIfInBounds_toArray, List.set_cons_zero, List.set_cons_succ, i64_w, i32_w]
     rfl
    exact norm_ (by simp only [putAll, Act.put, List.setIfInBounds_toArray, List.set_cons_zero, List.set_cons_succ]) (hCont (gb466, gb467) _ ⟨hHeld, (by (with_reducible repeat (first | refine blk_drewN ?_ _ | refine blk_drew ?_ | refine blk_alloc ?_ _)); exact BK466.out), (by (with_reducible repeat (first | refine blk_drewN ?_ _ | refine blk_drew ?_ | refine blk_alloc ?_ _)); exact BK467.out), GW466.out, GE466.out, NB467_466.out, NB466_467.out, GW467.out, GE467.out, (by repeat (first | (with_reducible first | exact HB.out | apply below_alloc | apply pw_below_drewN | apply below_drew1 | refine below_set ?_ GE466.out | refine below_set ?_ GE467.out) | exact HB.out))⟩)
   skip
   refine box_step ?hg (N := 11) ?hd (cs := #[.int .i64 0, .int .i64 0, .int .i64 0]) (t := 39) ?hr ?_; (case hd => rfl); (case hg => rfl); (case hr => first | (go_simp; done) | (go_simp; rfl))
   intro gb467 hg w12 hbox hb
   have n0_ := Aside0.mk (below_step (by repeat (first | (with_reducible first | exact HB.out | apply below_alloc | apply pw_below_drewN | apply below_drew1) | exact HB.out)) hb)
   have n1_ := Aside0.mk (hbox)
   have n2_ := Aside0.mk ((by rw [hg]; exact (below_size (by repeat (first | (with_reducible first | exact HB.out | apply below_alloc | apply pw_below_drewN | apply below_drew1) | exact HB.out))) : w.heap.size ≤ gb467))
   have n3_ := Aside0.mk ((by rw [hg]; exact (below_size (by repeat (first | (with_reducible first | exact HB.out | apply below_alloc | apply pw_below_drewN | apply below_drew1) | exact HB.out))) : w.heap.size ≤ gb467))
   clear HB
   have HB := n0_
   have BK467 := n1_
   have GW467 := n2_
   have GE467 := n3_
   clear n0_ n1_ n2_ n3_
   clear hb hbox hg
   refine hK.out _ _ ⟨((HB.out.cell (World.block_lt_of_cell? w _ hw464_0)).trans hw464_0), ((HB.out.cell (World.block_lt_of_cell? w _ hw464_1)).trans hw464_1), ((HB.out.cell (World.block_lt_of_cell? w _ hw464_2)).trans hw464_2), ((HB.out.cell (World.block_lt_of_cell? w _ hw465_0)).trans hw465_0), ((HB.out.cell (World.block_lt_of_cell? w _ hw465_1)).trans hw465_1), ((HB.out.cell (World.block_lt_of_cell? w _ hw465_2)).trans hw465_2)⟩ (fun hHeld => ?_)
   clear hK K
   refine norm_ (a' := ?_) ?_ ?_
   rotate_left
   ·show Act.put _ (some 11) _ = _
    simp only [Act.put, List.setIfInBounds_toArray, List.set_cons_zero, List.set_cons_succ, i64_w, i32_w]
    rfl
   refine one_ (i := 8) (N := some 10) #[true, true, true, true, true, true, true, true, true, true, false, false] rfl rfl (one_of HT_.out (by kernel_rfl)) (by decide) (fun K hK => ?_)
   refine box_step ?hg (N := 10) ?hd (cs := #[.int .i64 0, .int .i64 0, .int .i64 0]) (t := 39) ?hr ?_; (case hd => rfl); (case hg => rfl); (case hr => first | (go_simp; done) | (go_simp; rfl))
   intro gb466 hg w13 hbox hb
   have n0_ := Aside0.mk (blk_below (g := gb467) (o := .cells #[.int .i64 0, .int .i64 0, .int .i64 0] 39 (0, 0)) (by (with_reducible repeat (first | refine blk_drewN ?_ _ | refine blk_drew ?_ | refine blk_alloc ?_ _)); exact BK467.out) hb)
   have n1_ := Aside0.mk (below_step (by repeat (first | (with_reducible first | exact HB.out | apply below_alloc | apply pw_below_drewN | apply below_drew1 | refine below_set ?_ GE467.out) | exact HB.out)) hb)
   have n2_ := Aside0.mk (hbox)
   have n3_ := Aside0.mk ((by rw [hg]; exact (below_size (by repeat (first | (with_reducible first | exact HB.out | apply below_alloc | apply pw_below_drewN | apply below_drew1 | refine below_set ?_ GE467.out) | exact HB.out))) : w.heap.size ≤ gb466))
   have n4_ := Aside0.mk ((by rw [hg]; exact (below_size (by repeat (first | (with_reducible first | exact HB.out | apply below_alloc | apply pw_below_drewN | apply below_drew1 | refine below_set ?_ GE467.out) | exact HB.out))) : w.heap.size ≤ gb466))
   have n5_ := Aside0.mk ((by rw [hg]; exact Nat.ne_of_lt (blk_lt (g := gb467) (o := .cells #[.int .i64 0, .int .i64 0, .int .i64 0] 39 (0, 0)) (by (with_reducible repeat (first | refine blk_drewN ?_ _ | refine blk_drew ?_ | refine blk_alloc ?_ _)); exact BK467.out)) : gb467 ≠ gb466))
   have n6_ := Aside0.mk ((by rw [hg]; exact Nat.ne_of_gt (blk_lt (g := gb467) (o := .cells #[.int .i64 0, .int .i64 0, .int .i64 0] 39 (0, 0)) (by (with_reducible repeat (first | refine blk_drewN ?_ _ | refine blk_drew ?_ | refine blk_alloc ?_ _)); exact BK467.out)) : gb466 ≠ gb467))
   clear BK467
   clear HB
   have BK467 := n0_
   have HB := n1_
   have BK466 := n2_
   have GW466 := n3_
   have GE466 := n4_
   have NB467_466 := n5_
   have NB466_467 := n6_
   clear n0_ n1_ n2_ n3_ n4_ n5_ n6_
   clear hb hbox hg
   refine hK.out _ _ ⟨((HB.out.cell (World.block_lt_of_cell? w _ hw464_0)).trans hw464_0), ((HB.out.cell (World.block_lt_of_cell? w _ hw464_1)).trans hw464_1), ((HB.out.cell (World.block_lt_of_cell? w _ hw464_2)).trans hw464_2), ((HB.out.cell (World.block_lt_of_cell? w _ hw465_0)).trans hw465_0), ((HB.out.cell (World.block_lt_of_cell? w _ hw465_1)).trans hw465_1), ((HB.out.cell (World.block_lt_of_cell? w _ hw465_2)).trans hw465_2)⟩ (fun hHeld => ?_)
   clear hK K
   refine norm_ (a' := ?_) ?_ ?_
   rotate_left
   ·show Act.put _ (some 10) _ = _
    simp only [Act.put, List.setIfInBounds_toArray, List.set_cons_zero, List.set_cons_succ, i64_w, i32_w]
    rfl
   exact norm_ (by simp only [putAll, Act.put, List.setIfInBounds_toArray, List.set_cons_zero, List.set_cons_succ]) (hCont (gb466, gb467) _ ⟨hHeld, (by (with_reducible repeat (first | refine blk_drewN ?_ _ | refine blk_drew ?_ | refine blk_alloc ?_ _)); exact BK466.out), (by (with_reducible repeat (first | refine blk_drewN ?_ _ | refine blk_drew ?_ | refine blk_alloc ?_ _)); exact BK467.out), GW466.out, GE466.out, NB467_466.out, NB466_467.out, GW467.out, GE467.out, (by repeat (first | (with_reducible first | exact HB.out | apply below_alloc | apply pw_below_drewN | apply below_drew1 | refine below_set ?_ GE467.out | refine below_set ?_ GE466.out) | exact HB.out))⟩)
  rintro ⟨gb466, gb467⟩ w14 ⟨hS_, h0_, h1_, h2_, h3_, h4_, h5_, h6_, h7_, h8_⟩
  have n0_ : Aside0 (w14.heap[gb466]? = some (.cells #[.int .i64 0, .int .i64 0, .int .i64 0] 39 (0, 0))) := ⟨h0_⟩
  have n1_ : Aside0 (w14.heap[gb467]? = some (.cells #[.int .i64 0, .int .i64 0, .int .i64 0] 39 (0, 0))) := ⟨h1_⟩
  have n2_ : Aside0 (w.heap.size ≤ gb466) := ⟨h2_⟩
  have n3_ : Aside0 (w.heap.size ≤ gb466) := ⟨h3_⟩
  have n4_ : Aside0 (gb467 ≠ gb466) := ⟨h4_⟩
  have n5_ : Aside0 (gb466 ≠ gb467) := ⟨h5_⟩
  have n6_ : Aside0 (w.heap.size ≤ gb467) := ⟨h6_⟩
  have n7_ : Aside0 (w.heap.size ≤ gb467) := ⟨h7_⟩
  have n8_ : Aside0 (Below w.heap.size w w14) := ⟨h8_⟩
  clear HB
  clear h0_ h1_ h2_ h3_ h4_ h5_ h6_ h7_ h8_
  have BK466 := n0_
  have BK467 := n1_
  have GW466 := n2_
  have GE466 := n3_
  have NB467_466 := n4_
  have NB466_467 := n5_
  have GW467 := n6_
  have GE467 := n7_
  have HB := n8_
  clear n0_ n1_ n2_ n3_ n4_ n5_ n6_ n7_ n8_
  have hHeld : w14.cell? (ad464.add ((x1_1).toNat * 3)) = some (.int .i64 ((rd_T39 l0 x1_1).f0)) ∧ w14.cell? ⟨(ad464.add ((x1_1).toNat * 3)).block, (ad464.add ((x1_1).toNat * 3)).off + 1, none⟩ = some (.int .i64 ((rd_T39 l0 x1_1).f1)) ∧ w14.cell? ⟨(ad464.add ((x1_1).toNat * 3)).block, (ad464.add ((x1_1).toNat * 3)).off + 2, none⟩ = some (.int .i64 ((rd_T39 l0 x1_1).f2)) ∧ w14.cell? (ad464.add ((x2_1).toNat * 3)) = some (.int .i64 ((rd_T39 l0 x2_1).f0)) ∧ w14.cell? ⟨(ad464.add ((x2_1).toNat * 3)).block, (ad464.add ((x2_1).toNat * 3)).off + 1, none⟩ = some (.int .i64 ((rd_T39 l0 x2_1).f1)) ∧ w14.cell? ⟨(ad464.add ((x2_1).toNat * 3)).block, (ad464.add ((x2_1).toNat * 3)).off + 2, none⟩ = some (.int .i64 ((rd_T39 l0 x2_1).f2)) := hS_
  refine norm_ (a' := ?_) ?_ ?_
  rotate_left
  ·simp only [putAll, Act.put, List.setIfInBounds_toArray, List.set_cons_zero, List.set_cons_succ]
   rfl
  refine one_ (i := 10) (N := none) #[true, true, true, true, true, true, true, true, true, true, true, false] rfl rfl (one_of HT_.out (by kernel_rfl)) (by decide) (fun K hK => ?_)
  have hs15 : w14.cell? ⟨gb466, 0, none⟩ = some (.int .i64 0) := (blk_cell BK466.out 0).trans rfl
  have hfs15 := blk_frozen BK466.out 0
  have hns15_1 := NB467_466.out
  have hms15_1 := NB466_467.out
  have hs16 : w14.cell? ⟨gb466, 1, none⟩ = some (.int .i64 0) := (blk_cell BK466.out 1).trans rfl
  have hfs16 := blk_frozen BK466.out 1
  have hns16_1 := NB467_466.out
  have hms16_1 := NB466_467.out
  have hs17 : w14.cell? ⟨gb466, 2, none⟩ = some (.int .i64 0) := (blk_cell BK466.out 2).trans rfl
  have hfs17 := blk_frozen BK466.out 2
  have hns17_1 := NB467_466.out
  have hms17_1 := NB466_467.out
  refine skip_ (w1 := ?_) (by rfl) rfl ?_ ?_
  rotate_left
  ·go_simp
   rfl
  refine hK.out _ _ ⟨((cell_far (p := ⟨gb466, _, none⟩) (by first | exact Nat.ne_of_lt (Nat.lt_of_lt_of_le (by have := World.block_lt_of_cell? _ _ hw464_0; first | rwa [add_block] at this | exact this) GW466.out) | (rw [add_block]; exact Nat.ne_of_lt (Nat.lt_of_lt_of_le (by have := World.block_lt_of_cell? _ _ hw464_0; first | rwa [add_block] at this | exact this) GW466.out)) | (show (Addr.add _ _).block ≠ _; rw [add_block]; exact Nat.ne_of_lt (Nat.lt_of_lt_of_le (by have := World.block_lt_of_cell? _ _ hw464_0; first | rwa [add_block] at this | exact this) GW466.out)) | (dsimp only; exact Nat.ne_of_lt (Nat.lt_of_lt_of_le (by have := World.block_lt_of_cell? _ _ hw464_0; first | rwa [add_block] at this | exact this) GW466.out))) _).trans (((cell_far (p := ⟨gb466, _, none⟩) (by first | exact Nat.ne_of_lt (Nat.lt_of_lt_of_le (by have := World.block_lt_of_cell? _ _ hw464_0; first | rwa [add_block] at this | exact this) GW466.out) | (rw [add_block]; exact Nat.ne_of_lt (Nat.lt_of_lt_of_le (by have := World.block_lt_of_cell? _ _ hw464_0; first | rwa [add_block] at this | exact this) GW466.out)) | (show (Addr.add _ _).block ≠ _; rw [add_block]; exact Nat.ne_of_lt (Nat.lt_of_lt_of_le (by have := World.block_lt_of_cell? _ _ hw464_0; first | rwa [add_block] at this | exact this) GW466.out)) | (dsimp only; exact Nat.ne_of_lt (Nat.lt_of_lt_of_le (by have := World.block_lt_of_cell? _ _ hw464_0; first | rwa [add_block] at this | exact this) GW466.out))) _).trans (((cell_far (p := ⟨gb466, _, none⟩) (by first | exact Nat.ne_of_lt (Nat.lt_of_lt_of_le (by have := World.block_lt_of_cell? _ _ hw464_0; first | rwa [add_block] at this | exact this) GW466.out) | (rw [add_block]; exact Nat.ne_of_lt (Nat.lt_of_lt_of_le (by have := World.block_lt_of_cell? _ _ hw464_0; first | rwa [add_block] at this | exact this) GW466.out)) | (show (Addr.add _ _).block ≠ _; rw [add_block]; exact Nat.ne_of_lt (Nat.lt_of_lt_of_le (by have := World.block_lt_of_cell? _ _ hw464_0; first | rwa [add_block] at this | exact this) GW466.out)) | (dsimp only; exact Nat.ne_of_lt (Nat.lt_of_lt_of_le (by have := World.block_lt_of_cell? _ _ hw464_0; first | rwa [add_block] at this | exact this) GW466.out))) _).trans (hHeld.1)))))), ((cell_far (p := ⟨gb466, _, none⟩) (by first | exact Nat.ne_of_lt (Nat.lt_of_lt_of_le (by have := World.block_lt_of_cell? _ _ hw464_1; first | rwa [add_block] at this | exact this) GW466.out) | (rw [add_block]; exact Nat.ne_of_lt (Nat.lt_of_lt_of_le (by have := World.block_lt_of_cell? _ _ hw464_1; first | rwa [add_block] at this | exact this) GW466.out)) | (show (Addr.add _ _).block ≠ _; rw [add_block]; exact Nat.ne_of_lt (Nat.lt_of_lt_of_le (by have := World.block_lt_of_cell? _ _ hw464_1; first | rwa [add_block] at this | exact this) GW466.out)) | (dsimp only; exact Nat.ne_of_lt (Nat.lt_of_lt_of_le (by have := World.block_lt_of_cell? _ _ hw464_1; first | rwa [add_block] at this | exact this) GW466.out))) _).trans (((cell_far (p := ⟨gb466, _, none⟩) (by first | exact Nat.ne_of_lt (Nat.lt_of_lt_of_le (by have := World.block_lt_of_cell? _ _ hw464_1; first | rwa [add_block] at this | exact this) GW466.out) | (rw [add_block]; exact Nat.ne_of_lt (Nat.lt_of_lt_of_le (by have := World.block_lt_of_cell? _ _ hw464_1; first | rwa [add_block] at this | exact this) GW466.out)) | (show (Addr.add _ _).block ≠ _; rw [add_block]; exact Nat.ne_of_lt (Nat.lt_of_lt_of_le (by have := World.block_lt_of_cell? _ _ hw464_1; first | rwa [add_block] at this | exact this) GW466.out)) | (dsimp only; exact Nat.ne_of_lt (Nat.lt_of_lt_of_le (by have := World.block_lt_of_cell? _ _ hw464_1; first | rwa [add_block] at this | exact this) GW466.out))) _).trans (((cell_far (p := ⟨gb466, _, none⟩) (by first | exact Nat.ne_of_lt (Nat.lt_of_lt_of_le (by have := World.block_lt_of_cell? _ _ hw464_1; first | rwa [add_block] at this | exact this) GW466.out) | (rw [add_block]; exact Nat.ne_of_lt (Nat.lt_of_lt_of_le (by have := World.block_lt_of_cell? _ _ hw464_1; first | rwa [add_block] at this | exact this) GW466.out)) | (show (Addr.add _ _).block ≠ _; rw [add_block]; exact Nat.ne_of_lt (Nat.lt_of_lt_of_le (by have := World.block_lt_of_cell? _ _ hw464_1; first | rwa [add_block] at this | exact this) GW466.out)) | (dsimp only; exact Nat.ne_of_lt (Nat.lt_of_lt_of_le (by have := World.block_lt_of_cell? _ _ hw464_1; first | rwa [add_block] at this | exact this) GW466.out))) _).trans (hHeld.2.1)))))), ((cell_far (p := ⟨gb466, _, none⟩) (by first | exact Nat.ne_of_lt (Nat.lt_of_lt_of_le (by have := World.block_lt_of_cell? _ _ hw464_2; first | rwa [add_block] at this | exact this) GW466.out) | (rw [add_block]; exact Nat.ne_of_lt (Nat.lt_of_lt_of_le (by have := World.block_lt_of_cell? _ _ hw464_2; first | rwa [add_block] at this | exact this) GW466.out)) | (show (Addr.add _ _).block ≠ _; rw [add_block]; exact Nat.ne_of_lt (Nat.lt_of_lt_of_le (by have := World.block_lt_of_cell? _ _ hw464_2; first | rwa [add_block] at this | exact this) GW466.out)) | (dsimp only; exact Nat.ne_of_lt (Nat.lt_of_lt_of_le (by have := World.block_lt_of_cell? _ _ hw464_2; first | rwa [add_block] at this | exact this) GW466.out))) _).trans (((cell_far (p := ⟨gb466, _, none⟩) (by first | exact Nat.ne_of_lt (Nat.lt_of_lt_of_le (by have := World.block_lt_of_cell? _ _ hw464_2; first | rwa [add_block] at this | exact this) GW466.out) | (rw [add_block]; exact Nat.ne_of_lt (Nat.lt_of_lt_of_le (by have := World.block_lt_of_cell? _ _ hw464_2; first | rwa [add_block] at this | exact this) GW466.out)) | (show (Addr.add _ _).block ≠ _; rw [add_block]; exact Nat.ne_of_lt (Nat.lt_of_lt_of_le (by have := World.block_lt_of_cell? _ _ hw464_2; first | rwa [add_block] at this | exact this) GW466.out)) | (dsimp only; exact Nat.ne_of_lt (Nat.lt_of_lt_of_le (by have := World.block_lt_of_cell? _ _ hw464_2; first | rwa [add_block] at this | exact this) GW466.out))) _).trans (((cell_far (p := ⟨gb466, _, none⟩) (by first | exact Nat.ne_of_lt (Nat.lt_of_lt_of_le (by have := World.block_lt_of_cell? _ _ hw464_2; first | rwa [add_block] at this | exact this) GW466.out) | (rw [add_block]; exact Nat.ne_of_lt (Nat.lt_of_lt_of_le (by have := World.block_lt_of_cell? _ _ hw464_2; first | rwa [add_block] at this | exact this) GW466.out)) | (show (Addr.add _ _).block ≠ _; rw [add_block]; exact Nat.ne_of_lt (Nat.lt_of_lt_of_le (by have := World.block_lt_of_cell? _ _ hw464_2; first | rwa [add_block] at this | exact this) GW466.out)) | (dsimp only; exact Nat.ne_of_lt (Nat.lt_of_lt_of_le (by have := World.block_lt_of_cell? _ _ hw464_2; first | rwa [add_block] at this | exact this) GW466.out))) _).trans (hHeld.2.2.1)))))), ((cell_far (p := ⟨gb466, _, none⟩) (by first | exact Nat.ne_of_lt (Nat.lt_of_lt_of_le (by have := World.block_lt_of_cell? _ _ hw465_0; first | rwa [add_block] at this | exact this) GW466.out) | (rw [add_block]; exact Nat.ne_of_lt (Nat.lt_of_lt_of_le (by have := World.block_lt_of_cell? _ _ hw465_0; first | rwa [add_block] at this | exact this) GW466.out)) | (show (Addr.add _ _).block ≠ _; rw [add_block]; exact Nat.ne_of_lt (Nat.lt_of_lt_of_le (by have := World.block_lt_of_cell? _ _ hw465_0; first | rwa [add_block] at this | exact this) GW466.out)) | (dsimp only; exact Nat.ne_of_lt (Nat.lt_of_lt_of_le (by have := World.block_lt_of_cell? _ _ hw465_0; first | rwa [add_block] at this | exact this) GW466.out))) _).trans (((cell_far (p := ⟨gb466, _, none⟩) (by first | exact Nat.ne_of_lt (Nat.lt_of_lt_of_le (by have := World.block_lt_of_cell? _ _ hw465_0; first | rwa [add_block] at this | exact this) GW466.out) | (rw [add_block]; exact Nat.ne_of_lt (Nat.lt_of_lt_of_le (by have := World.block_lt_of_cell? _ _ hw465_0; first | rwa [add_block] at this | exact this) GW466.out)) | (show (Addr.add _ _).block ≠ _; rw [add_block]; exact Nat.ne_of_lt (Nat.lt_of_lt_of_le (by have := World.block_lt_of_cell? _ _ hw465_0; first | rwa [add_block] at this | exact this) GW466.out)) | (dsimp only; exact Nat.ne_of_lt (Nat.lt_of_lt_of_le (by have := World.block_lt_of_cell? _ _ hw465_0; first | rwa [add_block] at this | exact this) GW466.out))) _).trans (((cell_far (p := ⟨gb466, _, none⟩) (by first | exact Nat.ne_of_lt (Nat.lt_of_lt_of_le (by have := World.block_lt_of_cell? _ _ hw465_0; first | rwa [add_block] at this | exact this) GW466.out) | (rw [add_block]; exact Nat.ne_of_lt (Nat.lt_of_lt_of_le (by have := World.block_lt_of_cell? _ _ hw465_0; first | rwa [add_block] at this | exact this) GW466.out)) | (show (Addr.add _ _).block ≠ _; rw [add_block]; exact Nat.ne_of_lt (Nat.lt_of_lt_of_le (by have := World.block_lt_of_cell? _ _ hw465_0; first | rwa [add_block] at this | exact this) GW466.out)) | (dsimp only; exact Nat.ne_of_lt (Nat.lt_of_lt_of_le (by have := World.block_lt_of_cell? _ _ hw465_0; first | rwa [add_block] at this | exact this) GW466.out))) _).trans (hHeld.2.2.2.1)))))), ((cell_far (p := ⟨gb466, _, none⟩) (by first | exact Nat.ne_of_lt (Nat.lt_of_lt_of_le (by have := World.block_lt_of_cell? _ _ hw465_1; first | rwa [add_block] at this | exact this) GW466.out) | (rw [add_block]; exact Nat.ne_of_lt (Nat.lt_of_lt_of_le (by have := World.block_lt_of_cell? _ _ hw465_1; first | rwa [add_block] at this | exact this) GW466.out)) | (show (Addr.add _ _).block ≠ _; rw [add_block]; exact Nat.ne_of_lt (Nat.lt_of_lt_of_le (by have := World.block_lt_of_cell? _ _ hw465_1; first | rwa [add_block] at this | exact this) GW466.out)) | (dsimp only; exact Nat.ne_of_lt (Nat.lt_of_lt_of_le (by have := World.block_lt_of_cell? _ _ hw465_1; first | rwa [add_block] at this | exact this) GW466.out))) _).trans (((cell_far (p := ⟨gb466, _, none⟩) (by first | exact Nat.ne_of_lt (Nat.lt_of_lt_of_le (by have := World.block_lt_of_cell? _ _ hw465_1; first | rwa [add_block] at this | exact this) GW466.out) | (rw [add_block]; exact Nat.ne_of_lt (Nat.lt_of_lt_of_le (by have := World.block_lt_of_cell? _ _ hw465_1; first | rwa [add_block] at this | exact this) GW466.out)) | (show (Addr.add _ _).block ≠ _; rw [add_block]; exact Nat.ne_of_lt (Nat.lt_of_lt_of_le (by have := World.block_lt_of_cell? _ _ hw465_1; first | rwa [add_block] at this | exact this) GW466.out)) | (dsimp only; exact Nat.ne_of_lt (Nat.lt_of_lt_of_le (by have := World.block_lt_of_cell? _ _ hw465_1; first | rwa [add_block] at this | exact this) GW466.out))) _).trans (((cell_far (p := ⟨gb466, _, none⟩) (by first | exact Nat.ne_of_lt (Nat.lt_of_lt_of_le (by have := World.block_lt_of_cell? _ _ hw465_1; first | rwa [add_block] at this | exact this) GW466.out) | (rw [add_block]; exact Nat.ne_of_lt (Nat.lt_of_lt_of_le (by have := World.block_lt_of_cell? _ _ hw465_1; first | rwa [add_block] at this | exact this) GW466.out)) | (show (Addr.add _ _).block ≠ _; rw [add_block]; exact Nat.ne_of_lt (Nat.lt_of_lt_of_le (by have := World.block_lt_of_cell? _ _ hw465_1; first | rwa [add_block] at this | exact this) GW466.out)) | (dsimp only; exact Nat.ne_of_lt (Nat.lt_of_lt_of_le (by have := World.block_lt_of_cell? _ _ hw465_1; first | rwa [add_block] at this | exact this) GW466.out))) _).trans (hHeld.2.2.2.2.1)))))), ((cell_far (p := ⟨gb466, _, none⟩) (by first | exact Nat.ne_of_lt (Nat.lt_of_lt_of_le (by have := World.block_lt_of_cell? _ _ hw465_2; first | rwa [add_block] at this | exact this) GW466.out) | (rw [add_block]; exact Nat.ne_of_lt (Nat.lt_of_lt_of_le (by have := World.block_lt_of_cell? _ _ hw465_2; first | rwa [add_block] at this | exact this) GW466.out)) | (show (Addr.add _ _).block ≠ _; rw [add_block]; exact Nat.ne_of_lt (Nat.lt_of_lt_of_le (by have := World.block_lt_of_cell? _ _ hw465_2; first | rwa [add_block] at this | exact this) GW466.out)) | (dsimp only; exact Nat.ne_of_lt (Nat.lt_of_lt_of_le (by have := World.block_lt_of_cell? _ _ hw465_2; first | rwa [add_block] at this | exact this) GW466.out))) _).trans (((cell_far (p := ⟨gb466, _, none⟩) (by first | exact Nat.ne_of_lt (Nat.lt_of_lt_of_le (by have := World.block_lt_of_cell? _ _ hw465_2; first | rwa [add_block] at this | exact this) GW466.out) | (rw [add_block]; exact Nat.ne_of_lt (Nat.lt_of_lt_of_le (by have := World.block_lt_of_cell? _ _ hw465_2; first | rwa [add_block] at this | exact this) GW466.out)) | (show (Addr.add _ _).block ≠ _; rw [add_block]; exact Nat.ne_of_lt (Nat.lt_of_lt_of_le (by have := World.block_lt_of_cell? _ _ hw465_2; first | rwa [add_block] at this | exact this) GW466.out)) | (dsimp only; exact Nat.ne_of_lt (Nat.lt_of_lt_of_le (by have := World.block_lt_of_cell? _ _ hw465_2; first | rwa [add_block] at this | exact this) GW466.out))) _).trans (((cell_far (p := ⟨gb466, _, none⟩) (by first | exact Nat.ne_of_lt (Nat.lt_of_lt_of_le (by have := World.block_lt_of_cell? _ _ hw465_2; first | rwa [add_block] at this | exact this) GW466.out) | (rw [add_block]; exact Nat.ne_of_lt (Nat.lt_of_lt_of_le (by have := World.block_lt_of_cell? _ _ hw465_2; first | rwa [add_block] at this | exact this) GW466.out)) | (show (Addr.add _ _).block ≠ _; rw [add_block]; exact Nat.ne_of_lt (Nat.lt_of_lt_of_le (by have := World.block_lt_of_cell? _ _ hw465_2; first | rwa [add_block] at this | exact this) GW466.out)) | (dsimp only; exact Nat.ne_of_lt (Nat.lt_of_lt_of_le (by have := World.block_lt_of_cell? _ _ hw465_2; first | rwa [add_block] at this | exact this) GW466.out))) _).trans (hHeld.2.2.2.2.2))))))⟩ (fun hHeld => ?_)
  clear hK K
  refine one_ (i := 11) (N := none) #[true, true, true, true, true, true, true, true, true, true, true, true] rfl rfl (one_of HT_.out (by kernel_rfl)) (by decide) (fun K hK => ?_)
  have hs18 : w14.cell? ⟨gb467, 0, none⟩ = some (.int .i64 0) := (blk_cell BK467.out 0).trans rfl
  have hfs18 := blk_frozen BK467.out 0
  have hns18_0 := NB466_467.out
  have hms18_0 := NB467_466.out
  have hs19 : w14.cell? ⟨gb467, 1, none⟩ = some (.int .i64 0) := (blk_cell BK467.out 1).trans rfl
  have hfs19 := blk_frozen BK467.out 1
  have hns19_0 := NB466_467.out
  have hms19_0 := NB467_466.out
  have hs20 : w14.cell? ⟨gb467, 2, none⟩ = some (.int .i64 0) := (blk_cell BK467.out 2).trans rfl
  have hfs20 := blk_frozen BK467.out 2
  have hns20_0 := NB466_467.out
  have hms20_0 := NB467_466.out
  refine skip_ (w1 := ?_) (by rfl) rfl ?_ ?_
  rotate_left
  ·go_simp
   rfl
  refine hK.out _ _ ⟨((cell_far (p := ⟨gb467, _, none⟩) (by first | exact Nat.ne_of_lt (Nat.lt_of_lt_of_le (by have := World.block_lt_of_cell? _ _ hw464_0; first | rwa [add_block] at this | exact this) GW467.out) | (rw [add_block]; exact Nat.ne_of_lt (Nat.lt_of_lt_of_le (by have := World.block_lt_of_cell? _ _ hw464_0; first | rwa [add_block] at this | exact this) GW467.out)) | (show (Addr.add _ _).block ≠ _; rw [add_block]; exact Nat.ne_of_lt (Nat.lt_of_lt_of_le (by have := World.block_lt_of_cell? _ _ hw464_0; first | rwa [add_block] at this | exact this) GW467.out)) | (dsimp only; exact Nat.ne_of_lt (Nat.lt_of_lt_of_le (by have := World.block_lt_of_cell? _ _ hw464_0; first | rwa [add_block] at this | exact this) GW467.out))) _).trans (((cell_far (p := ⟨gb467, _, none⟩) (by first | exact Nat.ne_of_lt (Nat.lt_of_lt_of_le (by have := World.block_lt_of_cell? _ _ hw464_0; first | rwa [add_block] at this | exact this) GW467.out) | (rw [add_block]; exact Nat.ne_of_lt (Nat.lt_of_lt_of_le (by have := World.block_lt_of_cell? _ _ hw464_0; first | rwa [add_block] at this | exact this) GW467.out)) | (show (Addr.add _ _).block ≠ _; rw [add_block]; exact Nat.ne_of_lt (Nat.lt_of_lt_of_le (by have := World.block_lt_of_cell? _ _ hw464_0; first | rwa [add_block] at this | exact this) GW467.out)) | (dsimp only; exact Nat.ne_of_lt (Nat.lt_of_lt_of_le (by have := World.block_lt_of_cell? _ _ hw464_0; first | rwa [add_block] at this | exact this) GW467.out))) _).trans (((cell_far (p := ⟨gb467, _, none⟩) (by first | exact Nat.ne_of_lt (Nat.lt_of_lt_of_le (by have := World.block_lt_of_cell? _ _ hw464_0; first | rwa [add_block] at this | exact this) GW467.out) | (rw [add_block]; exact Nat.ne_of_lt (Nat.lt_of_lt_of_le (by have := World.block_lt_of_cell? _ _ hw464_0; first | rwa [add_block] at this | exact this) GW467.out)) | (show (Addr.add _ _).block ≠ _; rw [add_block]; exact Nat.ne_of_lt (Nat.lt_of_lt_of_le (by have := World.block_lt_of_cell? _ _ hw464_0; first | rwa [add_block] at this | exact this) GW467.out)) | (dsimp only; exact Nat.ne_of_lt (Nat.lt_of_lt_of_le (by have := World.block_lt_of_cell? _ _ hw464_0; first | rwa [add_block] at this | exact this) GW467.out))) _).trans (hHeld.1)))))), ((cell_far (p := ⟨gb467, _, none⟩) (by first | exact Nat.ne_of_lt (Nat.lt_of_lt_of_le (by have := World.block_lt_of_cell? _ _ hw464_1; first | rwa [add_block] at this | exact this) GW467.out) | (rw [add_block]; exact Nat.ne_of_lt (Nat.lt_of_lt_of_le (by have := World.block_lt_of_cell? _ _ hw464_1; first | rwa [add_block] at this | exact this) GW467.out)) | (show (Addr.add _ _).block ≠ _; rw [add_block]; exact Nat.ne_of_lt (Nat.lt_of_lt_of_le (by have := World.block_lt_of_cell? _ _ hw464_1; first | rwa [add_block] at this | exact this) GW467.out)) | (dsimp only; exact Nat.ne_of_lt (Nat.lt_of_lt_of_le (by have := World.block_lt_of_cell? _ _ hw464_1; first | rwa [add_block] at this | exact this) GW467.out))) _).trans (((cell_far (p := ⟨gb467, _, none⟩) (by first | exact Nat.ne_of_lt (Nat.lt_of_lt_of_le (by have := World.block_lt_of_cell? _ _ hw464_1; first | rwa [add_block] at this | exact this) GW467.out) | (rw [add_block]; exact Nat.ne_of_lt (Nat.lt_of_lt_of_le (by have := World.block_lt_of_cell? _ _ hw464_1; first | rwa [add_block] at this | exact this) GW467.out)) | (show (Addr.add _ _).block ≠ _; rw [add_block]; exact Nat.ne_of_lt (Nat.lt_of_lt_of_le (by have := World.block_lt_of_cell? _ _ hw464_1; first | rwa [add_block] at this | exact this) GW467.out)) | (dsimp only; exact Nat.ne_of_lt (Nat.lt_of_lt_of_le (by have := World.block_lt_of_cell? _ _ hw464_1; first | rwa [add_block] at this | exact this) GW467.out))) _).trans (((cell_far (p := ⟨gb467, _, none⟩) (by first | exact Nat.ne_of_lt (Nat.lt_of_lt_of_le (by have := World.block_lt_of_cell? _ _ hw464_1; first | rwa [add_block] at this | exact this) GW467.out) | (rw [add_block]; exact Nat.ne_of_lt (Nat.lt_of_lt_of_le (by have := World.block_lt_of_cell? _ _ hw464_1; first | rwa [add_block] at this | exact this) GW467.out)) | (show (Addr.add _ _).block ≠ _; rw [add_block]; exact Nat.ne_of_lt (Nat.lt_of_lt_of_le (by have := World.block_lt_of_cell? _ _ hw464_1; first | rwa [add_block] at this | exact this) GW467.out)) | (dsimp only; exact Nat.ne_of_lt (Nat.lt_of_lt_of_le (by have := World.block_lt_of_cell? _ _ hw464_1; first | rwa [add_block] at this | exact this) GW467.out))) _).trans (hHeld.2.1)))))), ((cell_far (p := ⟨gb467, _, none⟩) (by first | exact Nat.ne_of_lt (Nat.lt_of_lt_of_le (by have := World.block_lt_of_cell? _ _ hw464_2; first | rwa [add_block] at this | exact this) GW467.out) | (rw [add_block]; exact Nat.ne_of_lt (Nat.lt_of_lt_of_le (by have := World.block_lt_of_cell? _ _ hw464_2; first | rwa [add_block] at this | exact this) GW467.out)) | (show (Addr.add _ _).block ≠ _; rw [add_block]; exact Nat.ne_of_lt (Nat.lt_of_lt_of_le (by have := World.block_lt_of_cell? _ _ hw464_2; first | rwa [add_block] at this | exact this) GW467.out)) | (dsimp only; exact Nat.ne_of_lt (Nat.lt_of_lt_of_le (by have := World.block_lt_of_cell? _ _ hw464_2; first | rwa [add_block] at this | exact this) GW467.out))) _).trans (((cell_far (p := ⟨gb467, _, none⟩) (by first | exact Nat.ne_of_lt (Nat.lt_of_lt_of_le (by have := World.block_lt_of_cell? _ _ hw464_2; first | rwa [add_block] at this | exact this) GW467.out) | (rw [add_block]; exact Nat.ne_of_lt (Nat.lt_of_lt_of_le (by have := World.block_lt_of_cell? _ _ hw464_2; first | rwa [add_block] at this | exact this) GW467.out)) | (show (Addr.add _ _).block ≠ _; rw [add_block]; exact Nat.ne_of_lt (Nat.lt_of_lt_of_le (by have := World.block_lt_of_cell? _ _ hw464_2; first | rwa [add_block] at this | exact this) GW467.out)) | (dsimp only; exact Nat.ne_of_lt (Nat.lt_of_lt_of_le (by have := World.block_lt_of_cell? _ _ hw464_2; first | rwa [add_block] at this | exact this) GW467.out))) _).trans (((cell_far (p := ⟨gb467, _, none⟩) (by first | exact Nat.ne_of_lt (Nat.lt_of_lt_of_le (by have := World.block_lt_of_cell? _ _ hw464_2; first | rwa [add_block] at this | exact this) GW467.out) | (rw [add_block]; exact Nat.ne_of_lt (Nat.lt_of_lt_of_le (by have := World.block_lt_of_cell? _ _ hw464_2; first | rwa [add_block] at this | exact this) GW467.out)) | (show (Addr.add _ _).block ≠ _; rw [add_block]; exact Nat.ne_of_lt (Nat.lt_of_lt_of_le (by have := World.block_lt_of_cell? _ _ hw464_2; first | rwa [add_block] at this | exact this) GW467.out)) | (dsimp only; exact Nat.ne_of_lt (Nat.lt_of_lt_of_le (by have := World.block_lt_of_cell? _ _ hw464_2; first | rwa [add_block] at this | exact this) GW467.out))) _).trans (hHeld.2.2.1)))))), ((cell_far (p := ⟨gb467, _, none⟩) (by first | exact Nat.ne_of_lt (Nat.lt_of_lt_of_le (by have := World.block_lt_of_cell? _ _ hw465_0; first | rwa [add_block] at this | exact this) GW467.out) | (rw [add_block]; exact Nat.ne_of_lt (Nat.lt_of_lt_of_le (by have := World.block_lt_of_cell? _ _ hw465_0; first | rwa [add_block] at this | exact this) GW467.out)) | (show (Addr.add _ _).block ≠ _; rw [add_block]; exact Nat.ne_of_lt (Nat.lt_of_lt_of_le (by have := World.block_lt_of_cell? _ _ hw465_0; first | rwa [add_block] at this | exact this) GW467.out)) | (dsimp only; exact Nat.ne_of_lt (Nat.lt_of_lt_of_le (by have := World.block_lt_of_cell? _ _ hw465_0; first | rwa [add_block] at this | exact this) GW467.out))) _).trans (((cell_far (p := ⟨gb467, _, none⟩) (by first | exact Nat.ne_of_lt (Nat.lt_of_lt_of_le (by have := World.block_lt_of_cell? _ _ hw465_0; first | rwa [add_block] at this | exact this) GW467.out) | (rw [add_block]; exact Nat.ne_of_lt (Nat.lt_of_lt_of_le (by have := World.block_lt_of_cell? _ _ hw465_0; first | rwa [add_block] at this | exact this) GW467.out)) | (show (Addr.add _ _).block ≠ _; rw [add_block]; exact Nat.ne_of_lt (Nat.lt_of_lt_of_le (by have := World.block_lt_of_cell? _ _ hw465_0; first | rwa [add_block] at this | exact this) GW467.out)) | (dsimp only; exact Nat.ne_of_lt (Nat.lt_of_lt_of_le (by have := World.block_lt_of_cell? _ _ hw465_0; first | rwa [add_block] at this | exact this) GW467.out))) _).trans (((cell_far (p := ⟨gb467, _, none⟩) (by first | exact Nat.ne_of_lt (Nat.lt_of_lt_of_le (by have := World.block_lt_of_cell? _ _ hw465_0; first | rwa [add_block] at this | exact this) GW467.out) | (rw [add_block]; exact Nat.ne_of_lt (Nat.lt_of_lt_of_le (by have := World.block_lt_of_cell? _ _ hw465_0; first | rwa [add_block] at this | exact this) GW467.out)) | (show (Addr.add _ _).block ≠ _; rw [add_block]; exact Nat.ne_of_lt (Nat.lt_of_lt_of_le (by have := World.block_lt_of_cell? _ _ hw465_0; first | rwa [add_block] at this | exact this) GW467.out)) | (dsimp only; exact Nat.ne_of_lt (Nat.lt_of_lt_of_le (by have := World.block_lt_of_cell? _ _ hw465_0; first | rwa [add_block] at this | exact this) GW467.out))) _).trans (hHeld.2.2.2.1)))))), ((cell_far (p := ⟨gb467, _, none⟩) (by first | exact Nat.ne_of_lt (Nat.lt_of_lt_of_le (by have := World.block_lt_of_cell? _ _ hw465_1; first | rwa [add_block] at this | exact this) GW467.out) | (rw [add_block]; exact Nat.ne_of_lt (Nat.lt_of_lt_of_le (by have := World.block_lt_of_cell? _ _ hw465_1; first | rwa [add_block] at this | exact this) GW467.out)) | (show (Addr.add _ _).block ≠ _; rw [add_block]; exact Nat.ne_of_lt (Nat.lt_of_lt_of_le (by have := World.block_lt_of_cell? _ _ hw465_1; first | rwa [add_block] at this | exact this) GW467.out)) | (dsimp only; exact Nat.ne_of_lt (Nat.lt_of_lt_of_le (by have := World.block_lt_of_cell? _ _ hw465_1; first | rwa [add_block] at this | exact this) GW467.out))) _).trans (((cell_far (p := ⟨gb467, _, none⟩) (by first | exact Nat.ne_of_lt (Nat.lt_of_lt_of_le (by have := World.block_lt_of_cell? _ _ hw465_1; first | rwa [add_block] at this | exact this) GW467.out) | (rw [add_block]; exact Nat.ne_of_lt (Nat.lt_of_lt_of_le (by have := World.block_lt_of_cell? _ _ hw465_1; first | rwa [add_block] at this | exact this) GW467.out)) | (show (Addr.add _ _).block ≠ _; rw [add_block]; exact Nat.ne_of_lt (Nat.lt_of_lt_of_le (by have := World.block_lt_of_cell? _ _ hw465_1; first | rwa [add_block] at this | exact this) GW467.out)) | (dsimp only; exact Nat.ne_of_lt (Nat.lt_of_lt_of_le (by have := World.block_lt_of_cell? _ _ hw465_1; first | rwa [add_block] at this | exact this) GW467.out))) _).trans (((cell_far (p := ⟨gb467, _, none⟩) (by first | exact Nat.ne_of_lt (Nat.lt_of_lt_of_le (by have := World.block_lt_of_cell? _ _ hw465_1; first | rwa [add_block] at this | exact this) GW467.out) | (rw [add_block]; exact Nat.ne_of_lt (Nat.lt_of_lt_of_le (by have := World.block_lt_of_cell? _ _ hw465_1; first | rwa [add_block] at this | exact this) GW467.out)) | (show (Addr.add _ _).block ≠ _; rw [add_block]; exact Nat.ne_of_lt (Nat.lt_of_lt_of_le (by have := World.block_lt_of_cell? _ _ hw465_1; first | rwa [add_block] at this | exact this) GW467.out)) | (dsimp only; exact Nat.ne_of_lt (Nat.lt_of_lt_of_le (by have := World.block_lt_of_cell? _ _ hw465_1; first | rwa [add_block] at this | exact this) GW467.out))) _).trans (hHeld.2.2.2.2.1)))))), ((cell_far (p := ⟨gb467, _, none⟩) (by first | exact Nat.ne_of_lt (Nat.lt_of_lt_of_le (by have := World.block_lt_of_cell? _ _ hw465_2; first | rwa [add_block] at this | exact this) GW467.out) | (rw [add_block]; exact Nat.ne_of_lt (Nat.lt_of_lt_of_le (by have := World.block_lt_of_cell? _ _ hw465_2; first | rwa [add_block] at this | exact this) GW467.out)) | (show (Addr.add _ _).block ≠ _; rw [add_block]; exact Nat.ne_of_lt (Nat.lt_of_lt_of_le (by have := World.block_lt_of_cell? _ _ hw465_2; first | rwa [add_block] at this | exact this) GW467.out)) | (dsimp only; exact Nat.ne_of_lt (Nat.lt_of_lt_of_le (by have := World.block_lt_of_cell? _ _ hw465_2; first | rwa [add_block] at this | exact this) GW467.out))) _).trans (((cell_far (p := ⟨gb467, _, none⟩) (by first | exact Nat.ne_of_lt (Nat.lt_of_lt_of_le (by have := World.block_lt_of_cell? _ _ hw465_2; first | rwa [add_block] at this | exact this) GW467.out) | (rw [add_block]; exact Nat.ne_of_lt (Nat.lt_of_lt_of_le (by have := World.block_lt_of_cell? _ _ hw465_2; first | rwa [add_block] at this | exact this) GW467.out)) | (show (Addr.add _ _).block ≠ _; rw [add_block]; exact Nat.ne_of_lt (Nat.lt_of_lt_of_le (by have := World.block_lt_of_cell? _ _ hw465_2; first | rwa [add_block] at this | exact this) GW467.out)) | (dsimp only; exact Nat.ne_of_lt (Nat.lt_of_lt_of_le (by have := World.block_lt_of_cell? _ _ hw465_2; first | rwa [add_block] at this | exact this) GW467.out))) _).trans (((cell_far (p := ⟨gb467, _, none⟩) (by first | exact Nat.ne_of_lt (Nat.lt_of_lt_of_le (by have := World.block_lt_of_cell? _ _ hw465_2; first | rwa [add_block] at this | exact this) GW467.out) | (rw [add_block]; exact Nat.ne_of_lt (Nat.lt_of_lt_of_le (by have := World.block_lt_of_cell? _ _ hw465_2; first | rwa [add_block] at this | exact this) GW467.out)) | (show (Addr.add _ _).block ≠ _; rw [add_block]; exact Nat.ne_of_lt (Nat.lt_of_lt_of_le (by have := World.block_lt_of_cell? _ _ hw465_2; first | rwa [add_block] at this | exact this) GW467.out)) | (dsimp only; exact Nat.ne_of_lt (Nat.lt_of_lt_of_le (by have := World.block_lt_of_cell? _ _ hw465_2; first | rwa [add_block] at this | exact this) GW467.out))) _).trans (hHeld.2.2.2.2.2))))))⟩ (fun hHeld => ?_)
  clear hK K
  refine done_ (done_of HT_.out (by kernel_rfl)) ?_
  go_upto_region 5 with (fail)
  go_cut [33] (fun v33 wc => ∃ (kq : Nat) (x33_9 : Bool), v33 = .bool x33_9 ∧ Aside0 (tickingref06_Refutes.j1 kq l0 a3 x9_1 x33_9 ((rd_T39 l0 x1_1).f0) ((rd_T39 l0 x1_1).f1) ((rd_T39 l0 x1_1).f2) ((rd_T39 l0 x2_1).f0) ((rd_T39 l0 x2_1).f1) ((rd_T39 l0 x2_1).f2) = some r) ∧ Aside0 (kq ≤ k1) ∧ Aside0 (wc.heap[gb466]? = some (.cells #[.int .i64 ((rd_T39 l0 x1_1).f0), .int .i64 ((rd_T39 l0 x1_1).f1), .int .i64 ((rd_T39 l0 x1_1).f2)] 39 (0, 0))) ∧ Aside0 (wc.heap[gb467]? = some (.cells #[.int .i64 ((rd_T39 l0 x2_1).f0), .int .i64 ((rd_T39 l0 x2_1).f1), .int .i64 ((rd_T39 l0 x2_1).f2)] 39 (0, 0))) ∧ Aside0 (Below w.heap.size w wc))
  case first =>
   have H := HC10.out
   clear HC10
   by_cases c21 : ((rd_T39 l0 x1_1).f0) = 0
   ·rw [if_pos c21] at H
    have c21b0 : (((rd_T39 l0 x1_1).f0) == 0) = true := beq_iff_eq.mpr c21
    have c21b1 : (((rd_T39 l0 x1_1).f0) != 0) = false := bne_eq_false_iff_eq.mpr c21
    clear c21
    (first | rw [c21b0] | (simp only [i64_w, i32_w]; rw [c21b0]) | skip)
    have H' := Aside0.mk H
    clear H
    have hnb22 := NB466_467.out
    have hnc22 := NB467_466.out
    have hcz23_0 : w14.cell? ⟨gb466, 0, none⟩ = some (.int .i64 0) := (blk_cell BK466.out 0).trans rfl
    have hcz23_1 : w14.cell? ⟨gb466, 1, none⟩ = some (.int .i64 0) := (blk_cell BK466.out 1).trans rfl
    have hcz23_2 : w14.cell? ⟨gb466, 2, none⟩ = some (.int .i64 0) := (blk_cell BK466.out 2).trans rfl
    have hfz23_0 := blk_frozen BK466.out 0
    have hfz23_1 := blk_frozen BK466.out 1
    have hfz23_2 := blk_frozen BK466.out 2
    go_wp2
    go_meet
    exact ⟨_, (true), (by first | rfl | (simp; done) | (simp [*]; done)), H', ⟨by have := HK1.out; first | omega | exact Nat.le_refl _⟩, ⟨by (with_reducible repeat (first | refine blk_drewN ?_ _ | refine blk_drew ?_ | refine blk_alloc ?_ _)); refine blk_far ?_ NB466_467.out _; (with_reducible repeat (first | refine blk_drewN ?_ _ | refine blk_drew ?_ | refine blk_alloc ?_ _)); refine blk_far ?_ NB466_467.out _; (with_reducible repeat (first | refine blk_drewN ?_ _ | refine blk_drew ?_ | refine blk_alloc ?_ _)); refine blk_far ?_ NB466_467.out _; (with_reducible repeat (first | refine blk_drewN ?_ _ | refine blk_drew ?_ | refine blk_alloc ?_ _)); refine blk_put (cs := #[.int .i64 ((rd_T39 l0 x1_1).f0), .int .i64 ((rd_T39 l0 x1_1).f1), .int .i64 0]) ?_ 2 _ rfl; (with_reducible repeat (first | refine blk_drewN ?_ _ | refine blk_drew ?_ | refine blk_alloc ?_ _)); refine blk_put (cs := #[.int .i64 ((rd_T39 l0 x1_1).f0), .int .i64 0, .int .i64 0]) ?_ 1 _ rfl; (with_reducible repeat (first | refine blk_drewN ?_ _ | refine blk_drew ?_ | refine blk_alloc ?_ _)); refine blk_put (cs := #[.int .i64 0, .int .i64 0, .int .i64 0]) ?_ 0 _ rfl; (with_reducible repeat (first | refine blk_drewN ?_ _ | refine blk_drew ?_ | refine blk_alloc ?_ _)); exact BK466.out⟩, ⟨by (with_reducible repeat (first | refine blk_drewN ?_ _ | refine blk_drew ?_ | refine blk_alloc ?_ _)); refine blk_put (cs := #[.int .i64 ((rd_T39 l0 x2_1).f0), .int .i64 ((rd_T39 l0 x2_1).f1), .int .i64 0]) ?_ 2 _ rfl; (with_reducible repeat (first | refine blk_drewN ?_ _ | refine blk_drew ?_ | refine blk_alloc ?_ _)); refine blk_put (cs := #[.int .i64 ((rd_T39 l0 x2_1).f0), .int .i64 0, .int .i64 0]) ?_ 1 _ rfl; (with_reducible repeat (first | refine blk_drewN ?_ _ | refine blk_drew ?_ | refine blk_alloc ?_ _)); refine blk_put (cs := #[.int .i64 0, .int .i64 0, .int .i64 0]) ?_ 0 _ rfl; (with_reducible repeat (first | refine blk_drewN ?_ _ | refine blk_drew ?_ | refine blk_alloc ?_ _)); refine blk_far ?_ NB467_466.out _; (with_reducible repeat (first | refine blk_drewN ?_ _ | refine blk_drew ?_ | refine blk_alloc ?_ _)); refine blk_far ?_ NB467_466.out _; (with_reducible repeat (first | refine blk_drewN ?_ _ | refine blk_drew ?_ | refine blk_alloc ?_ _)); refine blk_far ?_ NB467_466.out _; (with_reducible repeat (first | refine blk_drewN ?_ _ | refine blk_drew ?_ | refine blk_alloc ?_ _)); exact BK467.out⟩, ⟨by repeat (first | (with_reducible first | exact HB.out | apply below_alloc | apply pw_below_drewN | apply below_drew1 | refine below_set ?_ GE466.out | refine below_set ?_ GE467.out) | exact HB.out)⟩⟩
   rw [if_neg c21] at H
   have c21b0 : (((rd_T39 l0 x1_1).f0) == 0) = false := beq_eq_false_iff_ne.mpr c21
   have c21b1 : (((rd_T39 l0 x1_1).f0) != 0) = true := bne_iff_ne.mpr c21
   (first | rw [c21b0] | (simp only [i64_w, i32_w]; rw [c21b0]) | skip)
   have H' := Aside0.mk H
   clear H
   have hnb24 := NB466_467.out
   have hnc24 := NB467_466.out
   have hcz25_0 : w14.cell? ⟨gb466, 0, none⟩ = some (.int .i64 0) := (blk_cell BK466.out 0).trans rfl
   have hcz25_1 : w14.cell? ⟨gb466, 1, none⟩ = some (.int .i64 0) := (blk_cell BK466.out 1).trans rfl
   have hcz25_2 : w14.cell? ⟨gb466, 2, none⟩ = some (.int .i64 0) := (blk_cell BK466.out 2).trans rfl
   have hfz25_0 := blk_frozen BK466.out 0
   have hfz25_1 := blk_frozen BK466.out 1
   have hfz25_2 := blk_frozen BK466.out 2
   have hcz26_0 : w14.cell? ⟨gb467, 0, none⟩ = some (.int .i64 0) := (blk_cell BK467.out 0).trans rfl
   have hcz26_1 : w14.cell? ⟨gb467, 1, none⟩ = some (.int .i64 0) := (blk_cell BK467.out 1).trans rfl
   have hcz26_2 : w14.cell? ⟨gb467, 2, none⟩ = some (.int .i64 0) := (blk_cell BK467.out 2).trans rfl
   have hfz26_0 := blk_frozen BK467.out 0
   have hfz26_1 := blk_frozen BK467.out 1
   have hfz26_2 := blk_frozen BK467.out 2
   go_wp2
   go_meet
   exact ⟨_, ((((rd_T39 l0 x2_1).f0) == 1)), (by first | rfl | (simp; done) | (simp [*]; done)), H', ⟨by have := HK1.out; first | omega | exact Nat.le_refl _⟩, ⟨by (with_reducible repeat (first | refine blk_drewN ?_ _ | refine blk_drew ?_ | refine blk_alloc ?_ _)); refine blk_far ?_ NB466_467.out _; (with_reducible repeat (first | refine blk_drewN ?_ _ | refine blk_drew ?_ | refine blk_alloc ?_ _)); refine blk_far ?_ NB466_467.out _; (with_reducible repeat (first | refine blk_drewN ?_ _ | refine blk_drew ?_ | refine blk_alloc ?_ _)); refine blk_far ?_ NB466_467.out _; (with_reducible repeat (first | refine blk_drewN ?_ _ | refine blk_drew ?_ | refine blk_alloc ?_ _)); refine blk_put (cs := #[.int .i64 ((rd_T39 l0 x1_1).f0), .int .i64 ((rd_T39 l0 x1_1).f1), .int .i64 0]) ?_ 2 _ rfl; (with_reducible repeat (first | refine blk_drewN ?_ _ | refine blk_drew ?_ | refine blk_alloc ?_ _)); refine blk_put (cs := #[.int .i64 ((rd_T39 l0 x1_1).f0), .int .i64 0, .int .i64 0]) ?_ 1 _ rfl; (with_reducible repeat (first | refine blk_drewN ?_ _ | refine blk_drew ?_ | refine blk_alloc ?_ _)); refine blk_put (cs := #[.int .i64 0, .int .i64 0, .int .i64 0]) ?_ 0 _ rfl; (with_reducible repeat (first | refine blk_drewN ?_ _ | refine blk_drew ?_ | refine blk_alloc ?_ _)); exact BK466.out⟩, ⟨by (with_reducible repeat (first | refine blk_drewN ?_ _ | refine blk_drew ?_ | refine blk_alloc ?_ _)); refine blk_put (cs := #[.int .i64 ((rd_T39 l0 x2_1).f0), .int .i64 ((rd_T39 l0 x2_1).f1), .int .i64 0]) ?_ 2 _ rfl; (with_reducible repeat (first | refine blk_drewN ?_ _ | refine blk_drew ?_ | refine blk_alloc ?_ _)); refine blk_put (cs := #[.int .i64 ((rd_T39 l0 x2_1).f0), .int .i64 0, .int .i64 0]) ?_ 1 _ rfl; (with_reducible repeat (first | refine blk_drewN ?_ _ | refine blk_drew ?_ | refine blk_alloc ?_ _)); refine blk_put (cs := #[.int .i64 0, .int .i64 0, .int .i64 0]) ?_ 0 _ rfl; (with_reducible repeat (first | refine blk_drewN ?_ _ | refine blk_drew ?_ | refine blk_alloc ?_ _)); refine blk_far ?_ NB467_466.out _; (with_reducible repeat (first | refine blk_drewN ?_ _ | refine blk_drew ?_ | refine blk_alloc ?_ _)); refine blk_far ?_ NB467_466.out _; (with_reducible repeat (first | refine blk_drewN ?_ _ | refine blk_drew ?_ | refine blk_alloc ?_ _)); refine blk_far ?_ NB467_466.out _; (with_reducible repeat (first | refine blk_drewN ?_ _ | refine blk_drew ?_ | refine blk_alloc ?_ _)); exact BK467.out⟩, ⟨by repeat (first | (with_reducible first | exact HB.out | apply below_alloc | apply pw_below_drewN | apply below_drew1 | refine below_set ?_ GE466.out | refine below_set ?_ GE467.out) | exact HB.out)⟩⟩
  case rest =>
   clear HC10
   try clear c2
   try clear p2
   try clear p4
   try clear q4
   try clear hx4
   try clear c5
   try clear c5b0
   try clear c6
   try clear c6b0
   try clear c7
   try clear c7b0
   try clear c8
   try clear c8b0
   try clear c9
   try clear c9b0
   try clear c21
   try clear c21b0
   try clear c21b1
   try clear c22
   try clear c24
   try clear hcz23_0
   try clear hcz23_1
   try clear hcz23_2
   try clear hcz25_0
   try clear hcz25_1
   try clear hcz25_2
   try clear hcz26_0
   try clear hcz26_1
   try clear hcz26_2
   try clear hfz23_0
   try clear hfz23_1
   try clear hfz23_2
   try clear hfz25_0
   try clear hfz25_1
   try clear hfz25_2
   try clear hfz26_0
   try clear hfz26_1
   try clear hfz26_2
   try clear hx464_0
   try clear hx464_1
   try clear hx464_2
   try clear hx465_0
   try clear hx465_1
   try clear hx465_2
   try clear p2
   try clear p464
   try clear p465
   try clear q464
   try clear q465
   obtain ⟨kq, x33_9, rfl, HA, HJ9, BK466, BK467, HB⟩ := hcut
   cases kq with
   | zero => exact absurd HA.out (by simp [tickingref06_Refutes.j1])
   | succ kj9 =>
    have H := HA.out
    clear HA
    simp only [tickingref06_Refutes.j1] at H
    by_cases c27 : x33_9 = true
    ·subst c27
     have H1 : (some false) = some r := by rw [if_pos rfl] at H; exact H
     clear H
     have H := H1
     clear H1
     obtain rfl := Option.some.inj H
     go_wp2
     go_ret
     exact ⟨by first | rfl | (simp [errW_none, errW_some] <;> rfl) | (simp [*, errW_none, errW_some] <;> rfl), by repeat (first | (with_reducible first | exact HB.out | apply below_alloc | apply pw_below_drewN | apply below_drew1 | refine below_set ?_ GE466.out | refine below_set ?_ GE467.out) | exact HB.out)⟩
    replace c27 := Bool.eq_false_iff.mpr c27
    subst c27
    have H1 : (if x9_1 = (a3.size : Int) then (some (((rd_T39 l0 x1_1).f0) != ((rd_T39 l0 x2_1).f0))) else (if ((rd_T39 l0 x1_1).f0) = ((rd_T39 l0 x2_1).f0) then (if ((rd_T39 l0 x1_1).f0) < 4 then (tickingref06_Refutes.j2 kj9 l0 a3 x9_1 true ((rd_T39 l0 x1_1).f0) ((rd_T39 l0 x1_1).f1) ((rd_T39 l0 x1_1).f2) ((rd_T39 l0 x2_1).f0) ((rd_T39 l0 x2_1).f1) ((rd_T39 l0 x2_1).f2)) else (if 0 ≤ x9_1 then (if x9_1 < (a3.size : Int) then (if (bt a3 x9_1) = 97 then (tickingref06_Refutes.j2 kj9 l0 a3 x9_1 false ((rd_T39 l0 x1_1).f0) ((rd_T39 l0 x1_1).f1) ((rd_T39 l0 x1_1).f2) ((rd_T39 l0 x2_1).f0) ((rd_T39 l0 x2_1).f1) ((rd_T39 l0 x2_1).f2)) else (tickingref06_Refutes.j2 kj9 l0 a3 x9_1 ((bt a3 x9_1) != 98) ((rd_T39 l0 x1_1).f0) ((rd_T39 l0 x1_1).f1) ((rd_T39 l0 x1_1).f2) ((rd_T39 l0 x2_1).f0) ((rd_T39 l0 x2_1).f1) ((rd_T39 l0 x2_1).f2))) else (none)) else (none))) else (tickingref06_Refutes.j2 kj9 l0 a3 x9_1 true ((rd_T39 l0 x1_1).f0) ((rd_T39 l0 x1_1).f1) ((rd_T39 l0 x1_1).f2) ((rd_T39 l0 x2_1).f0) ((rd_T39 l0 x2_1).f1) ((rd_T39 l0 x2_1).f2)))) = some r := by rw [if_neg (show ¬ (false = true) by decide)] at H; exact H
    clear H
    have H := H1
    clear H1
    by_cases c28 : x9_1 = (a3.size : Int)
    ·rw [if_pos c28] at H
     have c28b0 : (x9_1 == (a3.size : Int)) = true := beq_iff_eq.mpr c28
     have c28b1 : (x9_1 != (a3.size : Int)) = false := bne_eq_false_iff_eq.mpr c28
     clear c28
     obtain rfl := Option.some.inj H
     have hnb29 := NB466_467.out
     have hnc29 := NB467_466.out
     have hcz30_0 : wc.cell? ⟨gb466, 0, none⟩ = some (.int .i64 ((rd_T39 l0 x1_1).f0)) := (blk_cell BK466.out 0).trans rfl
     have hcz30_1 : wc.cell? ⟨gb466, 1, none⟩ = some (.int .i64 ((rd_T39 l0 x1_1).f1)) := (blk_cell BK466.out 1).trans rfl
     have hcz30_2 : wc.cell? ⟨gb466, 2, none⟩ = some (.int .i64 ((rd_T39 l0 x1_1).f2)) := (blk_cell BK466.out 2).trans rfl
     have hfz30_0 := blk_frozen BK466.out 0
     have hfz30_1 := blk_frozen BK466.out 1
     have hfz30_2 := blk_frozen BK466.out 2
     have hcz31_0 : wc.cell? ⟨gb467, 0, none⟩ = some (.int .i64 ((rd_T39 l0 x2_1).f0)) := (blk_cell BK467.out 0).trans rfl
     have hcz31_1 : wc.cell? ⟨gb467, 1, none⟩ = some (.int .i64 ((rd_T39 l0 x2_1).f1)) := (blk_cell BK467.out 1).trans rfl
     have hcz31_2 : wc.cell? ⟨gb467, 2, none⟩ = some (.int .i64 ((rd_T39 l0 x2_1).f2)) := (blk_cell BK467.out 2).trans rfl
     have hfz31_0 := blk_frozen BK467.out 0
     have hfz31_1 := blk_frozen BK467.out 1
     have hfz31_2 := blk_frozen BK467.out 2
     go_wp2
     go_ret
     exact ⟨by first | rfl | (simp [errW_none, errW_some] <;> rfl) | (simp [*, errW_none, errW_some] <;> rfl), by repeat (first | (with_reducible first | exact HB.out | apply below_alloc | apply pw_below_drewN | apply below_drew1 | refine below_set ?_ GE466.out | refine below_set ?_ GE467.out) | exact HB.out)⟩
    rw [if_neg c28] at H
    have c28b0 : (x9_1 == (a3.size : Int)) = false := beq_eq_false_iff_ne.mpr c28
    have c28b1 : (x9_1 != (a3.size : Int)) = true := bne_iff_ne.mpr c28
    have HC32 := Aside0.mk H
    clear H
    go_upto_region 9 with (fail)
    go_cut [64] (fun v64 wc => ∃ (kq : Nat) (x64_31 : Bool), v64 = .bool x64_31 ∧ Aside0 (tickingref06_Refutes.j2 kq l0 a3 x9_1 x64_31 ((rd_T39 l0 x1_1).f0) ((rd_T39 l0 x1_1).f1) ((rd_T39 l0 x1_1).f2) ((rd_T39 l0 x2_1).f0) ((rd_T39 l0 x2_1).f1) ((rd_T39 l0 x2_1).f2) = some r) ∧ Aside0 (kq ≤ kj9) ∧ Aside0 (wc.heap[gb466]? = some (.cells #[.int .i64 ((rd_T39 l0 x1_1).f0), .int .i64 ((rd_T39 l0 x1_1).f1), .int .i64 ((rd_T39 l0 x1_1).f2)] 39 (0, 0))) ∧ Aside0 (wc.heap[gb467]? = some (.cells #[.int .i64 ((rd_T39 l0 x2_1).f0), .int .i64 ((rd_T39 l0 x2_1).f1), .int .i64 ((rd_T39 l0 x2_1).f2)] 39 (0, 0))) ∧ Aside0 (Below w.heap.size w wc))
    case first =>
     have H := HC32.out
     clear HC32
     by_cases c33 : ((rd_T39 l0 x1_1).f0) = ((rd_T39 l0 x2_1).f0)
     rotate_left
     ·rw [if_neg c33] at H
      have c33b0 : (((rd_T39 l0 x1_1).f0) == ((rd_T39 l0 x2_1).f0)) = false := beq_eq_false_iff_ne.mpr c33
      have c33b1 : (((rd_T39 l0 x1_1).f0) != ((rd_T39 l0 x2_1).f0)) = true := bne_iff_ne.mpr c33
      (first | rw [c33b0] | (simp only [i64_w, i32_w]; rw [c33b0]) | skip)
      have H' := Aside0.mk H
      clear H
      have hnb49 := NB466_467.out
      have hnc49 := NB467_466.out
      have hcz50_0 : wc.cell? ⟨gb466, 0, none⟩ = some (.int .i64 ((rd_T39 l0 x1_1).f0)) := (blk_cell BK466.out 0).trans rfl
      have hcz50_1 : wc.cell? ⟨gb466, 1, none⟩ = some (.int .i64 ((rd_T39 l0 x1_1).f1)) := (blk_cell BK466.out 1).trans rfl
      have hcz50_2 : wc.cell? ⟨gb466, 2, none⟩ = some (.int .i64 ((rd_T39 l0 x1_1).f2)) := (blk_cell BK466.out 2).trans rfl
      have hfz50_0 := blk_frozen BK466.out 0
      have hfz50_1 := blk_frozen BK466.out 1
      have hfz50_2 := blk_frozen BK466.out 2
      have hcz51_0 : wc.cell? ⟨gb467, 0, none⟩ = some (.int .i64 ((rd_T39 l0 x2_1).f0)) := (blk_cell BK467.out 0).trans rfl
      have hcz51_1 : wc.cell? ⟨gb467, 1, none⟩ = some (.int .i64 ((rd_T39 l0 x2_1).f1)) := (blk_cell BK467.out 1).trans rfl
      have hcz51_2 : wc.cell? ⟨gb467, 2, none⟩ = some (.int .i64 ((rd_T39 l0 x2_1).f2)) := (blk_cell BK467.out 2).trans rfl
      have hfz51_0 := blk_frozen BK467.out 0
      have hfz51_1 := blk_frozen BK467.out 1
      have hfz51_2 := blk_frozen BK467.out 2
      go_wp2
      go_meet
      exact ⟨_, (true), (by first | rfl | (simp; done) | (simp [*]; done)), H', ⟨by have := HK1.out; have := HJ9.out; first | omega | exact Nat.le_refl _⟩, ⟨by (with_reducible repeat (first | refine blk_drewN ?_ _ | refine blk_drew ?_ | refine blk_alloc ?_ _)); exact BK466.out⟩, ⟨by (with_reducible repeat (first | refine blk_drewN ?_ _ | refine blk_drew ?_ | refine blk_alloc ?_ _)); exact BK467.out⟩, ⟨by repeat (first | (with_reducible first | exact HB.out | apply below_alloc | apply pw_below_drewN | apply below_drew1 | refine below_set ?_ GE466.out | refine below_set ?_ GE467.out) | exact HB.out)⟩⟩
     rw [if_pos c33] at H
     have c33b0 : (((rd_T39 l0 x1_1).f0) == ((rd_T39 l0 x2_1).f0)) = true := beq_iff_eq.mpr c33
     have c33b1 : (((rd_T39 l0 x1_1).f0) != ((rd_T39 l0 x2_1).f0)) = false := bne_eq_false_iff_eq.mpr c33
     clear c33
     (first | rw [c33b0] | (simp only [i64_w, i32_w]; rw [c33b0]) | skip)
     by_cases c34 : ((rd_T39 l0 x1_1).f0) < 4
     ·rw [if_pos c34] at H
      have c34b0 : decide (((rd_T39 l0 x1_1).f0) < 4) = true := decide_eq_true c34
      clear c34
      have H' := Aside0.mk H
      clear H
      have hnb35 := NB466_467.out
      have hnc35 := NB467_466.out
      have hcz36_0 : wc.cell? ⟨gb466, 0, none⟩ = some (.int .i64 ((rd_T39 l0 x1_1).f0)) := (blk_cell BK466.out 0).trans rfl
      have hcz36_1 : wc.cell? ⟨gb466, 1, none⟩ = some (.int .i64 ((rd_T39 l0 x1_1).f1)) := (blk_cell BK466.out 1).trans rfl
      have hcz36_2 : wc.cell? ⟨gb466, 2, none⟩ = some (.int .i64 ((rd_T39 l0 x1_1).f2)) := (blk_cell BK466.out 2).trans rfl
      have hfz36_0 := blk_frozen BK466.out 0
      have hfz36_1 := blk_frozen BK466.out 1
      have hfz36_2 := blk_frozen BK466.out 2
      have hcz37_0 : wc.cell? ⟨gb467, 0, none⟩ = some (.int .i64 ((rd_T39 l0 x2_1).f0)) := (blk_cell BK467.out 0).trans rfl
      have hcz37_1 : wc.cell? ⟨gb467, 1, none⟩ = some (.int .i64 ((rd_T39 l0 x2_1).f1)) := (blk_cell BK467.out 1).trans rfl
      have hcz37_2 : wc.cell? ⟨gb467, 2, none⟩ = some (.int .i64 ((rd_T39 l0 x2_1).f2)) := (blk_cell BK467.out 2).trans rfl
      have hfz37_0 := blk_frozen BK467.out 0
      have hfz37_1 := blk_frozen BK467.out 1
      have hfz37_2 := blk_frozen BK467.out 2
      go_wp2
      go_meet
      exact ⟨_, (true), (by first | rfl | (simp; done) | (simp [*]; done)), H', ⟨by have := HK1.out; have := HJ9.out; first | omega | exact Nat.le_refl _⟩, ⟨by (with_reducible repeat (first | refine blk_drewN ?_ _ | refine blk_drew ?_ | refine blk_alloc ?_ _)); exact BK466.out⟩, ⟨by (with_reducible repeat (first | refine blk_drewN ?_ _ | refine blk_drew ?_ | refine blk_alloc ?_ _)); exact BK467.out⟩, ⟨by repeat (first | (with_reducible first | exact HB.out | apply below_alloc | apply pw_below_drewN | apply below_drew1 | refine below_set ?_ GE466.out | refine below_set ?_ GE467.out) | exact HB.out)⟩⟩
     rw [if_neg c34] at H
     have c34b0 : decide (((rd_T39 l0 x1_1).f0) < 4) = false := decide_eq_false c34
     clear c34
     by_cases c38 : 0 ≤ x9_1
     rotate_left
     ·rw [if_neg c38] at H
      exact absurd H (by simp)
     rw [if_pos c38] at H
     have c38b0 : decide (0 ≤ x9_1) = true := decide_eq_true c38
     clear c38
     by_cases c39 : x9_1 < (a3.size : Int)
     rotate_left
     ·rw [if_neg c39] at H
      exact absurd H (by simp)
     rw [if_pos c39] at H
     have c39b0 : decide (x9_1 < (a3.size : Int)) = true := decide_eq_true c39
     clear c39
     by_cases c41 : (bt a3 x9_1) = 97
     ·rw [if_pos c41] at H
      have c41b0 : ((bt a3 x9_1) == 97) = true := beq_iff_eq.mpr c41
      have c41b1 : ((bt a3 x9_1) != 97) = false := bne_eq_false_iff_eq.mpr c41
      clear c41
      have H' := Aside0.mk H
      clear H
      have hnb42 := NB466_467.out
      have hnc42 := NB467_466.out
      have hcz43_0 : wc.cell? ⟨gb466, 0, none⟩ = some (.int .i64 ((rd_T39 l0 x1_1).f0)) := (blk_cell BK466.out 0).trans rfl
      have hcz43_1 : wc.cell? ⟨gb466, 1, none⟩ = some (.int .i64 ((rd_T39 l0 x1_1).f1)) := (blk_cell BK466.out 1).trans rfl
      have hcz43_2 : wc.cell? ⟨gb466, 2, none⟩ = some (.int .i64 ((rd_T39 l0 x1_1).f2)) := (blk_cell BK466.out 2).trans rfl
      have hfz43_0 := blk_frozen BK466.out 0
      have hfz43_1 := blk_frozen BK466.out 1
      have hfz43_2 := blk_frozen BK466.out 2
      have hcz44_0 : wc.cell? ⟨gb467, 0, none⟩ = some (.int .i64 ((rd_T39 l0 x2_1).f0)) := (blk_cell BK467.out 0).trans rfl
      have hcz44_1 : wc.cell? ⟨gb467, 1, none⟩ = some (.int .i64 ((rd_T39 l0 x2_1).f1)) := (blk_cell BK467.out 1).trans rfl
      have hcz44_2 : wc.cell? ⟨gb467, 2, none⟩ = some (.int .i64 ((rd_T39 l0 x2_1).f2)) := (blk_cell BK467.out 2).trans rfl
      have hfz44_0 := blk_frozen BK467.out 0
      have hfz44_1 := blk_frozen BK467.out 1
      have hfz44_2 := blk_frozen BK467.out 2
      have p40 : 0 ≤ (x9_1 : Int) := of_decide_eq_true (by first | (with_reducible assumption) | assumption)
      have q40 : x9_1 < (a3.size : Int) := of_decide_eq_true (by first | (with_reducible assumption) | assumption)
      have hx40 := bt_at a3 x9_1
      replace p40 := eq_true p40
      replace q40 := eq_true q40
      go_wp2
      go_meet
      exact ⟨_, (false), (by first | rfl | (simp; done) | (simp [*]; done)), H', ⟨by have := HK1.out; have := HJ9.out; first | omega | exact Nat.le_refl _⟩, ⟨by (with_reducible repeat (first | refine blk_drewN ?_ _ | refine blk_drew ?_ | refine blk_alloc ?_ _)); exact BK466.out⟩, ⟨by (with_reducible repeat (first | refine blk_drewN ?_ _ | refine blk_drew ?_ | refine blk_alloc ?_ _)); exact BK467.out⟩, ⟨by repeat (first | (with_reducible first | exact HB.out | apply below_alloc | apply pw_below_drewN | apply below_drew1 | refine below_set ?_ GE466.out | refine below_set ?_ GE467.out) | exact HB.out)⟩⟩
     rw [if_neg c41] at H
     have c41b0 : ((bt a3 x9_1) == 97) = false := beq_eq_false_iff_ne.mpr c41
     have c41b1 : ((bt a3 x9_1) != 97) = true := bne_iff_ne.mpr c41
     have H' := Aside0.mk H
     clear H
     have hnb46 := NB466_467.out
     have hnc46 := NB467_466.out
     have hcz47_0 : wc.cell? ⟨gb466, 0, none⟩ = some (.int .i64 ((rd_T39 l0 x1_1).f0)) := (blk_cell BK466.out 0).trans rfl
     have hcz47_1 : wc.cell? ⟨gb466, 1, none⟩ = some (.int .i64 ((rd_T39 l0 x1_1).f1)) := (blk_cell BK466.out 1).trans rfl
     have hcz47_2 : wc.cell? ⟨gb466, 2, none⟩ = some (.int .i64 ((rd_T39 l0 x1_1).f2)) := (blk_cell BK466.out 2).trans rfl
     have hfz47_0 := blk_frozen BK466.out 0
     have hfz47_1 := blk_frozen BK466.out 1
     have hfz47_2 := blk_frozen BK466.out 2
     have hcz48_0 : wc.cell? ⟨gb467, 0, none⟩ = some (.int .i64 ((rd_T39 l0 x2_1).f0)) := (blk_cell BK467.out 0).trans rfl
     have hcz48_1 : wc.cell? ⟨gb467, 1, none⟩ = some (.int .i64 ((rd_T39 l0 x2_1).f1)) := (blk_cell BK467.out 1).trans rfl
     have hcz48_2 : wc.cell? ⟨gb467, 2, none⟩ = some (.int .i64 ((rd_T39 l0 x2_1).f2)) := (blk_cell BK467.out 2).trans rfl
     have hfz48_0 := blk_frozen BK467.out 0
     have hfz48_1 := blk_frozen BK467.out 1
     have hfz48_2 := blk_frozen BK467.out 2
     have p40 : 0 ≤ (x9_1 : Int) := of_decide_eq_true (by first | (with_reducible assumption) | assumption)
     have q40 : x9_1 < (a3.size : Int) := of_decide_eq_true (by first | (with_reducible assumption) | assumption)
     have hx40 := bt_at a3 x9_1
     replace p40 := eq_true p40
     replace q40 := eq_true q40
     have p45 : 0 ≤ (x9_1 : Int) := of_decide_eq_true (by first | (with_reducible assumption) | assumption)
     have q45 : x9_1 < (a3.size : Int) := of_decide_eq_true (by first | (with_reducible assumption) | assumption)
     have hx45 := bt_at a3 x9_1
     replace p45 := eq_true p45
     replace q45 := eq_true q45
     go_wp2
     go_meet
     exact ⟨_, (((bt a3 x9_1) != 98)), (by first | rfl | (simp; done) | (simp [*]; done)), H', ⟨by have := HK1.out; have := HJ9.out; first | omega | exact Nat.le_refl _⟩, ⟨by (with_reducible repeat (first | refine blk_drewN ?_ _ | refine blk_drew ?_ | refine blk_alloc ?_ _)); exact BK466.out⟩, ⟨by (with_reducible repeat (first | refine blk_drewN ?_ _ | refine blk_drew ?_ | refine blk_alloc ?_ _)); exact BK467.out⟩, ⟨by repeat (first | (with_reducible first | exact HB.out | apply below_alloc | apply pw_below_drewN | apply below_drew1 | refine below_set ?_ GE466.out | refine below_set ?_ GE467.out) | exact HB.out)⟩⟩
    case rest =>
     clear HC32
     try clear c2
     try clear p2
     try clear c3
     try clear c4
     try clear p4
     try clear q4
     try clear hx4
     try clear c5
     try clear c5b0
     try clear c6
     try clear c6b0
     try clear c7
     try clear c7b0
     try clear c8
     try clear c8b0
     try clear c9
     try clear c9b0
     try clear c21
     try clear c21b0
     try clear c21b1
     try clear c22
     try clear c24
     try clear c27
     try clear c28
     try clear c28b0
     try clear c28b1
     try clear c29
     try clear c33
     try clear c33b0
     try clear c33b1
     try clear c34
     try clear c34b0
     try clear c35
     try clear c38
     try clear c38b0
     try clear c39
     try clear c39b0
     try clear p40
     try clear q40
     try clear hx40
     try clear c41
     try clear c41b0
     try clear c41b1
     try clear c42
     try clear p45
     try clear q45
     try clear hx45
     try clear c46
     try clear p46
     try clear q46
     try clear hx46
     try clear c49
     try clear hcz23_0
     try clear hcz23_1
     try clear hcz23_2
     try clear hcz25_0
     try clear hcz25_1
     try clear hcz25_2
     try clear hcz26_0
     try clear hcz26_1
     try clear hcz26_2
     try clear hcz30_0
     try clear hcz30_1
     try clear hcz30_2
     try clear hcz31_0
     try clear hcz31_1
     try clear hcz31_2
     try clear hcz36_0
     try clear hcz36_1
     try clear hcz36_2
     try clear hcz37_0
     try clear hcz37_1
     try clear hcz37_2
     try clear hcz43_0
     try clear hcz43_1
     try clear hcz43_2
     try clear hcz44_0
     try clear hcz44_1
     try clear hcz44_2
     try clear hcz47_0
     try clear hcz47_1
     try clear hcz47_2
     try clear hcz48_0
     try clear hcz48_1
     try clear hcz48_2
     try clear hcz50_0
     try clear hcz50_1
     try clear hcz50_2
     try clear hcz51_0
     try clear hcz51_1
     try clear hcz51_2
     try clear hfz23_0
     try clear hfz23_1
     try clear hfz23_2
     try clear hfz25_0
     try clear hfz25_1
     try clear hfz25_2
     try clear hfz26_0
     try clear hfz26_1
     try clear hfz26_2
     try clear hfz30_0
     try clear hfz30_1
     try clear hfz30_2
     try clear hfz31_0
     try clear hfz31_1
     try clear hfz31_2
     try clear hfz36_0
     try clear hfz36_1
     try clear hfz36_2
     try clear hfz37_0
     try clear hfz37_1
     try clear hfz37_2
     try clear hfz43_0
     try clear hfz43_1
     try clear hfz43_2
     try clear hfz44_0
     try clear hfz44_1
     try clear hfz44_2
     try clear hfz47_0
     try clear hfz47_1
     try clear hfz47_2
     try clear hfz48_0
     try clear hfz48_1
     try clear hfz48_2
     try clear hfz50_0
     try clear hfz50_1
     try clear hfz50_2
     try clear hfz51_0
     try clear hfz51_1
     try clear hfz51_2
     try clear hx464_0
     try clear hx464_1
     try clear hx464_2
     try clear hx465_0
     try clear hx465_1
     try clear hx465_2
     try clear p2
     try clear p4
     try clear p40
     try clear p45
     try clear p464
     try clear p465
     try clear q4
     try clear q40
     try clear q45
     try clear q464
     try clear q465
     obtain ⟨kq, x64_31, rfl, HA, HJ31, BK466, BK467, HB⟩ := hcut
     cases kq with
     | zero => exact absurd HA.out (by simp [tickingref06_Refutes.j2])
     | succ kj31 =>
      have H := HA.out
      clear HA
      simp only [tickingref06_Refutes.j2] at H
      by_cases c52 : x64_31 = true
      ·subst c52
       have H1 : (some false) = some r := by rw [if_pos rfl] at H; exact H
       clear H
       have H := H1
       clear H1
       obtain rfl := Option.some.inj H
       go_wp2
       go_ret
       exact ⟨by first | rfl | (simp [errW_none, errW_some] <;> rfl) | (simp [*, errW_none, errW_some] <;> rfl), by repeat (first | (with_reducible first | exact HB.out | apply below_alloc | apply pw_below_drewN | apply below_drew1 | refine below_set ?_ GE466.out | refine below_set ?_ GE467.out) | exact HB.out)⟩
      replace c52 := Bool.eq_false_iff.mpr c52
      subst c52
      have H1 : (if 0 ≤ x9_1 then (if x9_1 < (a3.size : Int) then (if (bt a3 x9_1) = 98 then (tickingref06_Refutes.l0 kj31 l0 ((rd_T39 l0 x1_1).f2) ((rd_T39 l0 x2_1).f2) a3 (wrap64 (x9_1 + 1))) else (if ((rd_T39 l0 x1_1).f0) = 4 then (tickingref06_Refutes.l0 kj31 l0 ((rd_T39 l0 x1_1).f1) ((rd_T39 l0 x2_1).f1) a3 (wrap64 (x9_1 + 1))) else (tickingref06_Refutes.l0 kj31 l0 ((rd_T39 l0 x2_1).f1) ((rd_T39 l0 x1_1).f1) a3 (wrap64 (x9_1 + 1))))) else (none)) else (none)) = some r := by rw [if_neg (show ¬ (false = true) by decide)] at H; exact H
      clear H
      have H := H1
      clear H1
      by_cases c53 : 0 ≤ x9_1
      rotate_left
      ·rw [if_neg c53] at H
       exact absurd H (by simp)
      rw [if_pos c53] at H
      have c53b0 : decide (0 ≤ x9_1) = true := decide_eq_true c53
      clear c53
      by_cases c54 : x9_1 < (a3.size : Int)
      rotate_left
      ·rw [if_neg c54] at H
       exact absurd H (by simp)
      rw [if_pos c54] at H
      have c54b0 : decide (x9_1 < (a3.size : Int)) = true := decide_eq_true c54
      clear c54
      by_cases c56 : (bt a3 x9_1) = 98
      ·rw [if_pos c56] at H
       have c56b0 : ((bt a3 x9_1) == 98) = true := beq_iff_eq.mpr c56
       have c56b1 : ((bt a3 x9_1) != 98) = false := bne_eq_false_iff_eq.mpr c56
       clear c56
       have H' := Aside0.mk H
       clear H
       have p55 : 0 ≤ (x9_1 : Int) := of_decide_eq_true (by first | (with_reducible assumption) | assumption)
       have q55 : x9_1 < (a3.size : Int) := of_decide_eq_true (by first | (with_reducible assumption) | assumption)
       have hx55 := bt_at a3 x9_1
       replace p55 := eq_true p55
       replace q55 := eq_true q55
       have hnb57 := NB466_467.out
       have hnc57 := NB467_466.out
       have hcz58_0 : wc.cell? ⟨gb466, 0, none⟩ = some (.int .i64 ((rd_T39 l0 x1_1).f0)) := (blk_cell BK466.out 0).trans rfl
       have hcz58_1 : wc.cell? ⟨gb466, 1, none⟩ = some (.int .i64 ((rd_T39 l0 x1_1).f1)) := (blk_cell BK466.out 1).trans rfl
       have hcz58_2 : wc.cell? ⟨gb466, 2, none⟩ = some (.int .i64 ((rd_T39 l0 x1_1).f2)) := (blk_cell BK466.out 2).trans rfl
       have hfz58_0 := blk_frozen BK466.out 0
       have hfz58_1 := blk_frozen BK466.out 1
       have hfz58_2 := blk_frozen BK466.out 2
       have hcz59_0 : wc.cell? ⟨gb467, 0, none⟩ = some (.int .i64 ((rd_T39 l0 x2_1).f0)) := (blk_cell BK467.out 0).trans rfl
       have hcz59_1 : wc.cell? ⟨gb467, 1, none⟩ = some (.int .i64 ((rd_T39 l0 x2_1).f1)) := (blk_cell BK467.out 1).trans rfl
       have hcz59_2 : wc.cell? ⟨gb467, 2, none⟩ = some (.int .i64 ((rd_T39 l0 x2_1).f2)) := (blk_cell BK467.out 2).trans rfl
       have hfz59_0 := blk_frozen BK467.out 0
       have hfz59_1 := blk_frozen BK467.out 1
       have hfz59_2 := blk_frozen BK467.out 2
       go_wp2
       go_roundg kj31
       case measure => have := HK1.out; have := HJ9.out; have := HJ31.out; omega
       exact ⟨(((rd_T39 l0 x1_1).f2)), (((rd_T39 l0 x2_1).f2)), (wrap64 (x9_1 + 1)), (by first | rfl | (simp; done) | (simp [*]; done)), (by first | rfl | (simp; done) | (simp [*]; done)), (by first | rfl | (simp; done) | (simp [*]; done)), H', ⟨by have := HK1.out; have := HJ9.out; have := HJ31.out; omega⟩, ⟨by repeat (first | (with_reducible first | exact HB.out | apply below_alloc | apply pw_below_drewN | apply below_drew1 | refine below_set ?_ GE466.out | refine below_set ?_ GE467.out) | exact HB.out)⟩⟩
      rw [if_neg c56] at H
      have c56b0 : ((bt a3 x9_1) == 98) = false := beq_eq_false_iff_ne.mpr c56
      have c56b1 : ((bt a3 x9_1) != 98) = true := bne_iff_ne.mpr c56
      by_cases c60 : ((rd_T39 l0 x1_1).f0) = 4
      rotate_left
      ·rw [if_neg c60] at H
       have c60b0 : (((rd_T39 l0 x1_1).f0) == 4) = false := beq_eq_false_iff_ne.mpr c60
       have c60b1 : (((rd_T39 l0 x1_1).f0) != 4) = true := bne_iff_ne.mpr c60
       have H' := Aside0.mk H
       clear H
       have p55 : 0 ≤ (x9_1 : Int) := of_decide_eq_true (by first | (with_reducible assumption) | assumption)
       have q55 : x9_1 < (a3.size : Int) := of_decide_eq_true (by first | (with_reducible assumption) | assumption)
       have hx55 := bt_at a3 x9_1
       replace p55 := eq_true p55
       replace q55 := eq_true q55
       have hnb64 := NB466_467.out
       have hnc64 := NB467_466.out
       have hcz65_0 : wc.cell? ⟨gb466, 0, none⟩ = some (.int .i64 ((rd_T39 l0 x1_1).f0)) := (blk_cell BK466.out 0).trans rfl
       have hcz65_1 : wc.cell? ⟨gb466, 1, none⟩ = some (.int .i64 ((rd_T39 l0 x1_1).f1)) := (blk_cell BK466.out 1).trans rfl
       have hcz65_2 : wc.cell? ⟨gb466, 2, none⟩ = some (.int .i64 ((rd_T39 l0 x1_1).f2)) := (blk_cell BK466.out 2).trans rfl
       have hfz65_0 := blk_frozen BK466.out 0
       have hfz65_1 := blk_frozen BK466.out 1
       have hfz65_2 := blk_frozen BK466.out 2
       have hcz66_0 : wc.cell? ⟨gb467, 0, none⟩ = some (.int .i64 ((rd_T39 l0 x2_1).f0)) := (blk_cell BK467.out 0).trans rfl
       have hcz66_1 : wc.cell? ⟨gb467, 1, none⟩ = some (.int .i64 ((rd_T39 l0 x2_1).f1)) := (blk_cell BK467.out 1).trans rfl
       have hcz66_2 : wc.cell? ⟨gb467, 2, none⟩ = some (.int .i64 ((rd_T39 l0 x2_1).f2)) := (blk_cell BK467.out 2).trans rfl
       have hfz66_0 := blk_frozen BK467.out 0
       have hfz66_1 := blk_frozen BK467.out 1
       have hfz66_2 := blk_frozen BK467.out 2
       go_wp2
       go_roundg kj31
       case measure => have := HK1.out; have := HJ9.out; have := HJ31.out; omega
       exact ⟨(((rd_T39 l0 x2_1).f1)), (((rd_T39 l0 x1_1).f1)), (wrap64 (x9_1 + 1)), (by first | rfl | (simp; done) | (simp [*]; done)), (by first | rfl | (simp; done) | (simp [*]; done)), (by first | rfl | (simp; done) | (simp [*]; done)), H', ⟨by have := HK1.out; have := HJ9.out; have := HJ31.out; omega⟩, ⟨by repeat (first | (with_reducible first | exact HB.out | apply below_alloc | apply pw_below_drewN | apply below_drew1 | refine below_set ?_ GE466.out | refine below_set ?_ GE467.out) | exact HB.out)⟩⟩
      rw [if_pos c60] at H
      have c60b0 : (((rd_T39 l0 x1_1).f0) == 4) = true := beq_iff_eq.mpr c60
      have c60b1 : (((rd_T39 l0 x1_1).f0) != 4) = false := bne_eq_false_iff_eq.mpr c60
      clear c60
      have H' := Aside0.mk H
      clear H
      have p55 : 0 ≤ (x9_1 : Int) := of_decide_eq_true (by first | (with_reducible assumption) | assumption)
      have q55 : x9_1 < (a3.size : Int) := of_decide_eq_true (by first | (with_reducible assumption) | assumption)
      have hx55 := bt_at a3 x9_1
      replace p55 := eq_true p55
      replace q55 := eq_true q55
      have hnb61 := NB466_467.out
      have hnc61 := NB467_466.out
      have hcz62_0 : wc.cell? ⟨gb466, 0, none⟩ = some (.int .i64 ((rd_T39 l0 x1_1).f0)) := (blk_cell BK466.out 0).trans rfl
      have hcz62_1 : wc.cell? ⟨gb466, 1, none⟩ = some (.int .i64 ((rd_T39 l0 x1_1).f1)) := (blk_cell BK466.out 1).trans rfl
      have hcz62_2 : wc.cell? ⟨gb466, 2, none⟩ = some (.int .i64 ((rd_T39 l0 x1_1).f2)) := (blk_cell BK466.out 2).trans rfl
      have hfz62_0 := blk_frozen BK466.out 0
      have hfz62_1 := blk_frozen BK466.out 1
      have hfz62_2 := blk_frozen BK466.out 2
      have hcz63_0 : wc.cell? ⟨gb467, 0, none⟩ = some (.int .i64 ((rd_T39 l0 x2_1).f0)) := (blk_cell BK467.out 0).trans rfl
      have hcz63_1 : wc.cell? ⟨gb467, 1, none⟩ = some (.int .i64 ((rd_T39 l0 x2_1).f1)) := (blk_cell BK467.out 1).trans rfl
      have hcz63_2 : wc.cell? ⟨gb467, 2, none⟩ = some (.int .i64 ((rd_T39 l0 x2_1).f2)) := (blk_cell BK467.out 2).trans rfl
      have hfz63_0 := blk_frozen BK467.out 0
      have hfz63_1 := blk_frozen BK467.out 1
      have hfz63_2 := blk_frozen BK467.out 2
      go_wp2
      go_roundg kj31
      case measure => have := HK1.out; have := HJ9.out; have := HJ31.out; omega
      exact ⟨(((rd_T39 l0 x1_1).f1)), (((rd_T39 l0 x2_1).f1)), (wrap64 (x9_1 + 1)), (by first | rfl | (simp; done) | (simp [*]; done)), (by first | rfl | (simp; done) | (simp [*]; done)), (by first | rfl | (simp; done) | (simp [*]; done)), H', ⟨by have := HK1.out; have := HJ9.out; have := HJ31.out; omega⟩, ⟨by repeat (first | (with_reducible first | exact HB.out | apply below_alloc | apply pw_below_drewN | apply below_drew1 | refine below_set ?_ GE466.out | refine below_set ?_ GE467.out) | exact HB.out)⟩⟩

def tickingref06_Right.f (k : Nat) (l0 : List (S39)) (a1 : Int) (a2 : Int) (a3_0 : Bool) (l3_1 : List (S23)) (a3_2 : ByteArray) : Option (Bool) := if a3_0 = true then (if a3_2.toList = ([] : List UInt8) then ((tickingref06_Closed.f k l0 l3_1).bind fun t469 => (if t469 = true then ((tickingref06_has.f k l3_1 a1 a2).bind fun t470 => (some t470)) else (some false))) else (some false)) else (if (l3_1.length : Int) = 0 then ((tickingref06_Refutes.f k l0 a1 a2 a3_2).bind fun t471 => (some t471)) else (some false))
set_option maxHeartbeats 8000000 in
set_option maxRecDepth 100000 in
theorem tickingref06_Right.calls (k : Nat) (A0 : Option Addr) (c0 : Nat) (l0 : List (S39)) (a1 : Int) (a2 : Int) (a3_0 : Bool) (A3_1 : Option Addr) (c3_1 : Nat) (l3_1 : List (S23)) (a3_2 : ByteArray) (r : Bool) (w : World) (hr0 : Kd.C k39 w A0 l0.length l0) (hc0 : l0.length ≤ c0) (hr3_1 : Kd.C k23 w A3_1 l3_1.length l3_1) (hc3_1 : l3_1.length ≤ c3_1) (h : tickingref06_Right.f k l0 a1 a2 a3_0 l3_1 a3_2 = some r) :
  Calls Try.prog 34 #[.slice A0 l0.length c0, .int .i64 a1, .int .i64 a2, .agg #[.bool a3_0, .slice A3_1 l3_1.length c3_1, .string a3_2]] w fun e w' => e = .returned (.bool r) ∧ Below w.heap.size w w' := by
 have hu55 := Try.underlying55
 have HR0 := Aside0.mk hr0
 have HC0 := Aside0.mk hc0
 clear hr0 hc0
 have HR3_1 := Aside0.mk hr3_1
 have HC3_1 := Aside0.mk hc3_1
 clear hr3_1 hc3_1
 have HB := Aside0.mk (Below.refl w.heap.size w)
 have H : (if a3_0 = true then (if a3_2.toList = ([] : List UInt8) then ((tickingref06_Closed.f k l0 l3_1).bind fun t469 => (if t469 = true then ((tickingref06_has.f k l3_1 a1 a2).bind fun t470 => (some t470)) else (some false))) else (some false)) else (if (l3_1.length : Int) = 0 then ((tickingref06_Refutes.f k l0 a1 a2 a3_2).bind fun t471 => (some t471)) else (some false))) = some r := h
 clear h
 by_cases c5 : a3_0 = true
 rotate_left
 ·replace c5 := Bool.eq_false_iff.mpr c5
  subst c5
  have H1 : (if (l3_1.length : Int) = 0 then ((tickingref06_Refutes.f k l0 a1 a2 a3_2).bind fun t471 => (some t471)) else (some false)) = some r := by rw [if_neg (show ¬ (false = true) by decide)] at H; exact H
  clear H
  have H := H1
  clear H1
  by_cases c19 : (l3_1.length : Int) = 0
  rotate_left
  ·rw [if_neg c19] at H
   have c19b0 : ((l3_1.length : Int) == 0) = false := beq_eq_false_iff_ne.mpr c19
   have c19b1 : ((l3_1.length : Int) != 0) = true := bne_iff_ne.mpr c19
   have c19b2 : ¬ (l3_1 = []) := fun h_ => c19 (by rw [h_]; rfl)
   obtain rfl := Option.some.inj H
   go_enter Try.func34, Try.ntmps34
   go_wp2_with (first | ((with_reducible refine gate_dst (N := 7) rfl ?_); refine box_event ?hg (N := 7) ?hd (cs := #[.bool false, .slice A3_1 l3_1.length c3_1, .string a3_2]) (t := 55) ?hr ?_; (case hd => rfl); (case hg => rfl); (case hr => first | (go_simp; done) | (go_simp; rfl)); intro gb468 hg w24 hbox hb; have n0_ := Aside0.mk (below_step (by repeat (first | (with_reducible first | exact HB.out | apply below_alloc | apply pw_below_drewN | apply below_drew1) | exact HB.out)) hb); have n1_ := Aside0.mk (hbox); have n2_ := Aside0.mk ((by rw [hg]; exact (below_size (by repeat (first | (with_reducible first | exact HB.out | apply below_alloc | apply pw_below_drewN | apply below_drew1) | exact HB.out))) : w.heap.size ≤ gb468)); have n3_ := Aside0.mk ((by rw [hg]; exact (below_size (by repeat (first | (with_reducible first | exact HB.out | apply below_alloc | apply pw_below_drewN | apply below_drew1) | exact HB.out))) : w.heap.size ≤ gb468)); clear HB; have HB := n0_; have BK468 := n1_; have GW468 := n2_; have GE468 := n3_; clear n0_ n1_ n2_ n3_; clear hb hbox hg; have hcz25_0 : w24.cell? ⟨gb468, 0, none⟩ = some (.bool false) := (blk_cell BK468.out 0).trans rfl; have hcz25_1 : w24.cell? ⟨gb468, 1, none⟩ = some (.slice A3_1 l3_1.length c3_1) := (blk_cell BK468.out 1).trans rfl; have hcz25_2 : w24.cell? ⟨gb468, 2, none⟩ = some (.string a3_2) := (blk_cell BK468.out 2).trans rfl; have hfz25_0 := blk_frozen BK468.out 0; have hfz25_1 := blk_frozen BK468.out 1; have hfz25_2 := blk_frozen BK468.out 2))
   go_ret
   exact ⟨by first | rfl | (simp [errW_none, errW_some] <;> rfl) | (simp [*, errW_none, errW_some] <;> rfl), by repeat (first | (with_reducible first | exact HB.out | apply below_alloc | apply pw_below_drewN | apply below_drew1 | refine below_set ?_ GE468.out) | exact HB.out)⟩
  rw [if_pos c19] at H
  have c19b0 : ((l3_1.length : Int) == 0) = true := beq_iff_eq.mpr c19
  have c19b1 : ((l3_1.length : Int) != 0) = false := bne_eq_false_iff_eq.mpr c19
  clear c19
  replace H := Option.bind_eq_some_iff.mp H
  obtain ⟨t471, A200, H⟩ := H
  replace H : (some t471) = some r := H
  have A20 := Aside0.mk A200
  clear A200
  obtain rfl := Option.some.inj H
  go_enter Try.func34, Try.ntmps34
  go_wp2_with (first | ((with_reducible refine gate_dst (N := 7) rfl ?_); refine box_event ?hg (N := 7) ?hd (cs := #[.bool false, .slice A3_1 l3_1.length c3_1, .string a3_2]) (t := 55) ?hr ?_; (case hd => rfl); (case hg => rfl); (case hr => first | (go_simp; done) | (go_simp; rfl)); intro gb468 hg w21 hbox hb; have n0_ := Aside0.mk (below_step (by repeat (first | (with_reducible first | exact HB.out | apply below_alloc | apply pw_below_drewN | apply below_drew1) | exact HB.out)) hb); have n1_ := Aside0.mk (hbox); have n2_ := Aside0.mk ((by rw [hg]; exact (below_size (by repeat (first | (with_reducible first | exact HB.out | apply below_alloc | apply pw_below_drewN | apply below_drew1) | exact HB.out))) : w.heap.size ≤ gb468)); have n3_ := Aside0.mk ((by rw [hg]; exact (below_size (by repeat (first | (with_reducible first | exact HB.out | apply below_alloc | apply pw_below_drewN | apply below_drew1) | exact HB.out))) : w.heap.size ≤ gb468)); clear HB; have HB := n0_; have BK468 := n1_; have GW468 := n2_; have GE468 := n3_; clear n0_ n1_ n2_ n3_; clear hb hbox hg; have hcz22_0 : w21.cell? ⟨gb468, 0, none⟩ = some (.bool false) := (blk_cell BK468.out 0).trans rfl; have hcz22_1 : w21.cell? ⟨gb468, 1, none⟩ = some (.slice A3_1 l3_1.length c3_1) := (blk_cell BK468.out 1).trans rfl; have hcz22_2 : w21.cell? ⟨gb468, 2, none⟩ = some (.string a3_2) := (blk_cell BK468.out 2).trans rfl; have hfz22_0 := blk_frozen BK468.out 0; have hfz22_1 := blk_frozen BK468.out 1; have hfz22_2 := blk_frozen BK468.out 2) | (go_at_call 54; (with_reducible refine (tickingref06_Refutes.calls k _ _ l0 a1 a2 a3_2 t471 _ ?side1 ?side2 A20.out).mono ?_); (case side1 => repeat (first | exact (Kd.C_below HR0.out HB.out) | (with_reducible refine Kd.C_alloc ?_ _) | (with_reducible refine Kd.C_drewN ?_ _) | (with_reducible refine Kd.C_drew ?_))); (case side2 => exact HC0.out); rintro e w23 ⟨rfl, hb⟩; have n0_ := Aside0.mk (blk_below (g := gb468) (o := .cells #[.bool false, .slice A3_1 l3_1.length c3_1, .string a3_2] 55 (0, 0)) (by (with_reducible repeat (first | refine blk_drewN ?_ _ | refine blk_drew ?_ | refine blk_alloc ?_ _)); exact BK468.out) hb); have n1_ := Aside0.mk (below_step (by repeat (first | (with_reducible first | exact HB.out | apply below_alloc | apply pw_below_drewN | apply below_drew1 | refine below_set ?_ GE468.out) | exact HB.out)) hb); clear BK468; clear HB; have BK468 := n0_; have HB := n1_; clear n0_ n1_; (try clear hb); (try clear hb2); (try clear hk); (try clear hi)))
  go_ret
  exact ⟨by first | rfl | (simp [errW_none, errW_some] <;> rfl) | (simp [*, errW_none, errW_some] <;> rfl), by repeat (first | (with_reducible first | exact HB.out | apply below_alloc | apply pw_below_drewN | apply below_drew1 | refine below_set ?_ GE468.out) | exact HB.out)⟩
 subst c5
 have H1 : (if a3_2.toList = ([] : List UInt8) then ((tickingref06_Closed.f k l0 l3_1).bind fun t469 => (if t469 = true then ((tickingref06_has.f k l3_1 a1 a2).bind fun t470 => (some t470)) else (some false))) else (some false)) = some r := by rw [if_pos rfl] at H; exact H
 clear H
 have H := H1
 clear H1
 by_cases c6 : a3_2.toList = ([] : List UInt8)
 rotate_left
 ·rw [if_neg c6] at H
  have c6b0 : (a3_2.toList == ([] : List UInt8)) = false := beq_eq_false_iff_ne.mpr c6
  have c6b1 : (a3_2.toList != ([] : List UInt8)) = true := bne_iff_ne.mpr c6
  obtain rfl := Option.some.inj H
  go_enter Try.func34, Try.ntmps34
  go_wp2_with (first | ((with_reducible refine gate_dst (N := 7) rfl ?_); refine box_event ?hg (N := 7) ?hd (cs := #[.bool true, .slice A3_1 l3_1.length c3_1, .string a3_2]) (t := 55) ?hr ?_; (case hd => rfl); (case hg => rfl); (case hr => first | (go_simp; done) | (go_simp; rfl)); intro gb468 hg w17 hbox hb; have n0_ := Aside0.mk (below_step (by repeat (first | (with_reducible first | exact HB.out | apply below_alloc | apply pw_below_drewN | apply below_drew1) | exact HB.out)) hb); have n1_ := Aside0.mk (hbox); have n2_ := Aside0.mk ((by rw [hg]; exact (below_size (by repeat (first | (with_reducible first | exact HB.out | apply below_alloc | apply pw_below_drewN | apply below_drew1) | exact HB.out))) : w.heap.size ≤ gb468)); have n3_ := Aside0.mk ((by rw [hg]; exact (below_size (by repeat (first | (with_reducible first | exact HB.out | apply below_alloc | apply pw_below_drewN | apply below_drew1) | exact HB.out))) : w.heap.size ≤ gb468)); clear HB; have HB := n0_; have BK468 := n1_; have GW468 := n2_; have GE468 := n3_; clear n0_ n1_ n2_ n3_; clear hb hbox hg; have hcz18_0 : w17.cell? ⟨gb468, 0, none⟩ = some (.bool true) := (blk_cell BK468.out 0).trans rfl; have hcz18_1 : w17.cell? ⟨gb468, 1, none⟩ = some (.slice A3_1 l3_1.length c3_1) := (blk_cell BK468.out 1).trans rfl; have hcz18_2 : w17.cell? ⟨gb468, 2, none⟩ = some (.string a3_2) := (blk_cell BK468.out 2).trans rfl; have hfz18_0 := blk_frozen BK468.out 0; have hfz18_1 := blk_frozen BK468.out 1; have hfz18_2 := blk_frozen BK468.out 2))
  go_ret
  exact ⟨by first | rfl | (simp [errW_none, errW_some] <;> rfl) | (simp [*, errW_none, errW_some] <;> rfl), by repeat (first | (with_reducible first | exact HB.out | apply below_alloc | apply pw_below_drewN | apply below_drew1 | refine below_set ?_ GE468.out) | exact HB.out)⟩
 rw [if_pos c6] at H
 have c6b0 : (a3_2.toList == ([] : List UInt8)) = true := beq_iff_eq.mpr c6
 have c6b1 : (a3_2.toList != ([] : List UInt8)) = false := bne_eq_false_iff_eq.mpr c6
 clear c6
 replace H := Option.bind_eq_some_iff.mp H
 obtain ⟨t469, A70, H⟩ := H
 replace H : (if t469 = true then ((tickingref06_has.f k l3_1 a1 a2).bind fun t470 => (some t470)) else (some false)) = some r := H
 have A7 := Aside0.mk A70
 clear A70
 by_cases c8 : t469 = true
 rotate_left
 ·replace c8 := Bool.eq_false_iff.mpr c8
  subst c8
  have H1 : (some false) = some r := by rw [if_neg (show ¬ (false = true) by decide)] at H; exact H
  clear H
  have H := H1
  clear H1
  obtain rfl := Option.some.inj H
  go_enter Try.func34, Try.ntmps34
  go_wp2_with (first | ((with_reducible refine gate_dst (N := 7) rfl ?_); refine box_event ?hg (N := 7) ?hd (cs := #[.bool true, .slice A3_1 l3_1.length c3_1, .string a3_2]) (t := 55) ?hr ?_; (case hd => rfl); (case hg => rfl); (case hr => first | (go_simp; done) | (go_simp; rfl)); intro gb468 hg w14 hbox hb; have n0_ := Aside0.mk (below_step (by repeat (first | (with_reducible first | exact HB.out | apply below_alloc | apply pw_below_drewN | apply below_drew1) | exact HB.out)) hb); have n1_ := Aside0.mk (hbox); have n2_ := Aside0.mk ((by rw [hg]; exact (below_size (by repeat (first | (with_reducible first | exact HB.out | apply below_alloc | apply pw_below_drewN | apply below_drew1) | exact HB.out))) : w.heap.size ≤ gb468)); have n3_ := Aside0.mk ((by rw [hg]; exact (below_size (by repeat (first | (with_reducible first | exact HB.out | apply below_alloc | apply pw_below_drewN | apply below_drew1) | exact HB.out))) : w.heap.size ≤ gb468)); clear HB; have HB := n0_; have BK468 := n1_; have GW468 := n2_; have GE468 := n3_; clear n0_ n1_ n2_ n3_; clear hb hbox hg; have hcz15_0 : w14.cell? ⟨gb468, 0, none⟩ = some (.bool true) := (blk_cell BK468.out 0).trans rfl; have hcz15_1 : w14.cell? ⟨gb468, 1, none⟩ = some (.slice A3_1 l3_1.length c3_1) := (blk_cell BK468.out 1).trans rfl; have hcz15_2 : w14.cell? ⟨gb468, 2, none⟩ = some (.string a3_2) := (blk_cell BK468.out 2).trans rfl; have hfz15_0 := blk_frozen BK468.out 0; have hfz15_1 := blk_frozen BK468.out 1; have hfz15_2 := blk_frozen BK468.out 2) | (go_at_call 52; (with_reducible refine (tickingref06_Closed.calls k _ _ l0 _ _ l3_1 false _ ?side1 ?side2 ?side3 ?side4 A7.out).mono ?_); (case side1 => repeat (first | exact (Kd.C_below HR0.out HB.out) | (with_reducible refine Kd.C_alloc ?_ _) | (with_reducible refine Kd.C_drewN ?_ _) | (with_reducible refine Kd.C_drew ?_))); (case side2 => exact HC0.out); (case side3 => repeat (first | exact (Kd.C_below HR3_1.out HB.out) | (with_reducible refine Kd.C_alloc ?_ _) | (with_reducible refine Kd.C_drewN ?_ _) | (with_reducible refine Kd.C_drew ?_))); (case side4 => exact HC3_1.out); rintro e w16 ⟨rfl, hb⟩; have n0_ := Aside0.mk (blk_below (g := gb468) (o := .cells #[.bool true, .slice A3_1 l3_1.length c3_1, .string a3_2] 55 (0, 0)) (by (with_reducible repeat (first | refine blk_drewN ?_ _ | refine blk_drew ?_ | refine blk_alloc ?_ _)); exact BK468.out) hb); have n1_ := Aside0.mk (below_step (by repeat (first | (with_reducible first | exact HB.out | apply below_alloc | apply pw_below_drewN | apply below_drew1 | refine below_set ?_ GE468.out) | exact HB.out)) hb); clear BK468; clear HB; have BK468 := n0_; have HB := n1_; clear n0_ n1_; (try clear hb); (try clear hb2); (try clear hk); (try clear hi)))
  go_ret
  exact ⟨by first | rfl | (simp [errW_none, errW_some] <;> rfl) | (simp [*, errW_none, errW_some] <;> rfl), by repeat (first | (with_reducible first | exact HB.out | apply below_alloc | apply pw_below_drewN | apply below_drew1 | refine below_set ?_ GE468.out) | exact HB.out)⟩
 subst c8
 have H1 : ((tickingref06_has.f k l3_1 a1 a2).bind fun t470 => (some t470)) = some r := by rw [if_pos rfl] at H; exact H
 clear H
 have H := H1
 clear H1
 replace H := Option.bind_eq_some_iff.mp H
 obtain ⟨t470, A90, H⟩ := H
 replace H : (some t470) = some r := H
 have A9 := Aside0.mk A90
 clear A90
 obtain rfl := Option.some.inj H
 go_enter Try.func34, Try.ntmps34
 go_wp2_with (first | ((with_reducible refine gate_dst (N := 7) rfl ?_); refine box_event ?hg (N := 7) ?hd (cs := #[.bool true, .slice A3_1 l3_1.length c3_1, .string a3_2]) (t := 55) ?hr ?_; (case hd => rfl); (case hg => rfl); (case hr => first | (go_simp; done) | (go_simp; rfl)); intro gb468 hg w10 hbox hb; have n0_ := Aside0.mk (below_step (by repeat (first | (with_reducible first | exact HB.out | apply below_alloc | apply pw_below_drewN | apply below_drew1) | exact HB.out)) hb); have n1_ := Aside0.mk (hbox); have n2_ := Aside0.mk ((by rw [hg]; exact (below_size (by repeat (first | (with_reducible first | exact HB.out | apply below_alloc | apply pw_below_drewN | apply below_drew1) | exact HB.out))) : w.heap.size ≤ gb468)); have n3_ := Aside0.mk ((by rw [hg]; exact (below_size (by repeat (first | (with_reducible first | exact HB.out | apply below_alloc | apply pw_below_drewN | apply below_drew1) | exact HB.out))) : w.heap.size ≤ gb468)); clear HB; have HB := n0_; have BK468 := n1_; have GW468 := n2_; have GE468 := n3_; clear n0_ n1_ n2_ n3_; clear hb hbox hg; have hcz11_0 : w10.cell? ⟨gb468, 0, none⟩ = some (.bool true) := (blk_cell BK468.out 0).trans rfl; have hcz11_1 : w10.cell? ⟨gb468, 1, none⟩ = some (.slice A3_1 l3_1.length c3_1) := (blk_cell BK468.out 1).trans rfl; have hcz11_2 : w10.cell? ⟨gb468, 2, none⟩ = some (.string a3_2) := (blk_cell BK468.out 2).trans rfl; have hfz11_0 := blk_frozen BK468.out 0; have hfz11_1 := blk_frozen BK468.out 1; have hfz11_2 := blk_frozen BK468.out 2) | (go_at_call 52; (with_reducible refine (tickingref06_Closed.calls k _ _ l0 _ _ l3_1 true _ ?side1 ?side2 ?side3 ?side4 A7.out).mono ?_); (case side1 => repeat (first | exact (Kd.C_below HR0.out HB.out) | (with_reducible refine Kd.C_alloc ?_ _) | (with_reducible refine Kd.C_drewN ?_ _) | (with_reducible refine Kd.C_drew ?_))); (case side2 => exact HC0.out); (case side3 => repeat (first | exact (Kd.C_below HR3_1.out HB.out) | (with_reducible refine Kd.C_alloc ?_ _) | (with_reducible refine Kd.C_drewN ?_ _) | (with_reducible refine Kd.C_drew ?_))); (case side4 => exact HC3_1.out); rintro e w12 ⟨rfl, hb⟩; have n0_ := Aside0.mk (blk_below (g := gb468) (o := .cells #[.bool true, .slice A3_1 l3_1.length c3_1, .string a3_2] 55 (0, 0)) (by (with_reducible repeat (first | refine blk_drewN ?_ _ | refine blk_drew ?_ | refine blk_alloc ?_ _)); exact BK468.out) hb); have n1_ := Aside0.mk (below_step (by repeat (first | (with_reducible first | exact HB.out | apply below_alloc | apply pw_below_drewN | apply below_drew1 | refine below_set ?_ GE468.out) | exact HB.out)) hb); clear BK468; clear HB; have BK468 := n0_; have HB := n1_; clear n0_ n1_; (try clear hb); (try clear hb2); (try clear hk); (try clear hi); have hcz13_0 : w12.cell? ⟨gb468, 0, none⟩ = some (.bool true) := (blk_cell BK468.out 0).trans rfl; have hcz13_1 : w12.cell? ⟨gb468, 1, none⟩ = some (.slice A3_1 l3_1.length c3_1) := (blk_cell BK468.out 1).trans rfl; have hcz13_2 : w12.cell? ⟨gb468, 2, none⟩ = some (.string a3_2) := (blk_cell BK468.out 2).trans rfl; have hfz13_0 := blk_frozen BK468.out 0; have hfz13_1 := blk_frozen BK468.out 1; have hfz13_2 := blk_frozen BK468.out 2) | (go_at_call 53; (with_reducible refine (tickingref06_has.calls k _ _ l3_1 a1 a2 t470 _ ?side1 ?side2 A9.out).mono ?_); (case side1 => repeat (first | exact (Kd.C_below HR3_1.out HB.out) | (with_reducible refine Kd.C_alloc ?_ _) | (with_reducible refine Kd.C_drewN ?_ _) | (with_reducible refine Kd.C_drew ?_))); (case side2 => exact HC3_1.out); rintro e w' ⟨rfl, ⟨nd, rfl⟩⟩))
 go_ret
 exact ⟨by first | rfl | (simp [errW_none, errW_some] <;> rfl) | (simp [*, errW_none, errW_some] <;> rfl), by repeat (first | (with_reducible first | exact HB.out | apply below_alloc | apply pw_below_drewN | apply below_drew1 | refine below_set ?_ GE468.out) | exact HB.out)⟩
end Go.Proofs.Ytnfmeafiaipplaa.S

namespace Go.Proofs.Ytnfmeafiaipplaa.S
open Go.Proofs.Ytnfmeafiaipplaa.Lib
open Go.Maps (Keyed)
open Go.ChangeMaps (setBlock)
open Go.RowKit Go.Proofs.YtnfmeafiaipplaaW.PrintWords Go.Proofs.YtnfmeafiaipplaaW.PrintLast Go.Proofs.YtnfmeafiaipplaaW.PrintMore
attribute [local go_sem] max2_int min2_int max_two min_two max_three min_three max_four min_four
set_option linter.unusedVariables false
set_option linter.unusedSimpArgs false

section
open Go.MapKept Go.WideElems Go.ChangeMaps
variable {w : World} {P : Program} {t k e : TypeId} {b m : Nat} {f : Value → Option Value}
/-- The entries of a map's block: what stands under their keys. -/
theorem MapAt.entries (h : MapAt w P k b m f) (K : Keyed P k) (ht : P.underlying t = some (.map k e)) {z : Value} (hz : (zeroValue e).run P w = .ok z w) :
  ∃ es clock, w.heap[b]? = some (.map es clock) ∧ Stamped es clock ∧ (∀ x ∈ es.toList, f x.key = some x.val) ∧ ∀ kv kl v, keyOf P k kv = some kl → f kv = some v → ∃ x ∈ es.toList, x.val = v := by
 have h' := h
 obtain ⟨D, ⟨es, clock, hb, F, hs, hD⟩, hsz, hat⟩ := h
 refine ⟨es, clock, hb, F.stamped, fun x hx => ?_, fun kv kl v hk hv => ?_⟩
 ·obtain ⟨kl, hkl⟩ := F.keys x hx
  have hr := h'.lookOk K ht hz hkl
  rcases K.find w hkl es.toList F.keys with ⟨q1, q2⟩ | ⟨j, e0, q1, q2, q3⟩
  ·exact absurd rfl (q2 x hx)
  have he0 : e0 ∈ es.toList := List.mem_of_getElem? q2
  have e00 : e0 = x := by
   have hn := F.stamped.2.2
   obtain ⟨i, hi, ei⟩ := List.getElem_of_mem hx
   obtain ⟨i0, hi0, ei0⟩ := List.getElem_of_mem he0
   have : i0 = i := (List.getElem_inj (h₀ := by simpa using hi0) (h₁ := by simpa using hi) hn).1 (by simp only [List.getElem_map, ei, ei0, q3])
   subst this
   rw [← ei, ← ei0]
  subst e00
  simp [Instr.lookup, run_underlying ht, MapKept.run_getObj_map hb, K.check w _ hkl, q1, Result.andThen] at hr
  obtain ⟨h1, h2⟩ := hr
  cases hf : f e0.key with
  | none => rw [hf] at h2; cases h2
  | some v => rw [hf] at h1; rw [h1]; rfl
 have hr := h'.lookOk K ht hz hk
 rcases K.find w hk es.toList F.keys with ⟨q1, q2⟩ | ⟨j, e0, q1, q2, q3⟩
 ·rw [hv] at hr
  simp [Instr.lookup, run_underlying ht, MapKept.run_getObj_map hb, K.check w _ hk, q1, hz, Result.andThen] at hr
 refine ⟨e0, List.mem_of_getElem? q2, ?_⟩
 rw [hv] at hr
 simp [Instr.lookup, run_underlying ht, MapKept.run_getObj_map hb, K.check w _ hk, q1, hz, Result.andThen] at hr
 exact hr
end
def inR (n : Nat) (p : S23) : Bool := decide (0 ≤ p.f0 ∧ p.f0 ≤ (n : Int) - 1) && decide (0 ≤ p.f1 ∧ p.f1 ≤ (n : Int) - 1)
def needL (m : Option (List Int × List Int)) (ds : List (List Int)) : Bool :=
 match m with
 | none => true
 | some (pa, pb) => decide (pa ∈ ds) && decide (pb ∈ ds)
def needB (t : List S39) (ds : List (List Int)) (p : S23) : Bool :=
 match needsF (rd_T39 t p.f0) (rd_T39 t p.f1) with
 | none => false
 | some m => needL m ds
def closedB (t : List S39) (l : List S23) (p : S23) : Bool := decide (l.length ≤ 600) && (l.all (inR t.length) && (l.all (needB t (l.map l23)) && decide (l23 p ∈ l.map l23)))
/-- What holds in memory all along. -/
structure ClSt (w wr : World) (p : S23) (ds : List (List Int)) (n : Nat) : Prop where
 below : Below w.heap.size w wr
 box : wr.heap[w.heap.size]? = some (.cells #[.int .i64 p.f0, .int .i64 p.f1] 23 (0, 0))
 map : ∃ m, m ≤ n ∧ MapAt wr Try.prog 23 (w.heap.size + 1) m (encL (inSet ds))
theorem ClSt.belowN {w wr wr' : World} {p : S23} {ds : List (List Int)} {n : Nat} (h : ClSt w wr p ds n) (hB : Below wr.heap.size wr wr') : ClSt w wr' p ds n := by
 obtain ⟨h1, h2, m, hm, h3⟩ := h
 exact ⟨below_then h1 h1.size hB, blk_below h2 hB, m, hm, h3.below hB⟩
theorem ClSt.lt {w wr : World} {p : S23} {ds : List (List Int)} {n : Nat} (h : ClSt w wr p ds n) : w.heap.size + 1 < wr.heap.size := by
 obtain ⟨h1, h2, m, hm, h3⟩ := h
 exact h3.lt
theorem heap_setBlock_ne (w : World) (r : Nat) (o : Obj) {i : Nat} (h : i ≠ r) : (setBlock w r o).heap[i]? = w.heap[i]? := by
 simp [setBlock, Array.getElem?_setIfInBounds, Ne.symm h]
theorem ClSt.turned {w wr : World} {p : S23} {ds : List (List Int)} {n : Nat} (h : ClSt w wr p ds n) {r : Nat} (hr : w.heap.size + 1 < r) (o : Obj) : ClSt w (setBlock wr r o) p ds n := by
 obtain ⟨h1, h2, m, hm, h3⟩ := h
 refine ⟨?_, ?_, m, hm, ?_⟩
 ·exact h1.trans ⟨rfl, rfl, rfl, by simp [setBlock], fun k hk => heap_setBlock_ne _ _ _ (by omega)⟩
 ·rw [heap_setBlock_ne _ _ _ (by omega)]; exact h2
 exact h3.block (heap_setBlock_ne _ _ _ (by omega))
/-- A pair goes into the set. -/
theorem ClSt.put {w wr : World} {p : S23} {ds : List (List Int)} {n : Nat} (h : ClSt w wr p ds n) (hn : n ≤ 10000) {a c : Int} (ha : I64 a) (hc : I64 c) :
  ∃ w', (Instr.mapUpdate 104 (.map (some (w.heap.size + 1))) (.agg #[.int .i64 a, .int .i64 c]) (.bool true)).run Try.prog wr = .ok () w' ∧ ClSt w w' p (ds ++ [[a, c]]) (n + 1) := by
 obtain ⟨h1, h2, m, hm, h3⟩ := h
 obtain ⟨w', r1, r2, r3⟩ := h3.store law23 Try.underlying104 (by unfold maxLen; omega) (key23 ha hc) (val := .bool true) (f' := encL (inSet (ds ++ [[a, c]]))) (inSet_new (ds := ds) (q := [a, c])) (inSet_far (ds := ds) (q := [a, c]))
 refine ⟨w', r1, Below.grown h1 r3 h1.size (fun k hk => by injection hk with hk; omega), blk_grown h2 r3 (by intro e; injection e with e; omega), _, ?_, r2⟩
 split <;> omega
/-- What a pair needs, asked in any order. -/
structure ClIt (wr : World) (r b : Nat) (es : Array MapEntry) (clock : Nat) (seen : Array Nat) : Prop where
 it : wr.heap[r]? = some (.mapIter (some b) clock seen clock)
 map : wr.heap[b]? = some (.map es clock)
theorem ClIt.below {wr wr' : World} {r b clock : Nat} {es : Array MapEntry} {seen : Array Nat} (h : ClIt wr r b es clock seen) (hB : Below wr.heap.size wr wr') : ClIt wr' r b es clock seen :=
 ⟨blk_below h.it hB, blk_below h.map hB⟩
open Go.MapKept in
theorem needs_entries {pa pb : List Int} {W : World} {b m : Nat} (h : MapAt W Try.prog 5 b m (encU (two8 pa pb))) :
  ∃ es clock, W.heap[b]? = some (.map es clock) ∧ Stamped es clock ∧ (∀ x ∈ es.toList, x.val = keyL pa ∨ x.val = keyL pb) ∧ (∃ x ∈ es.toList, x.val = keyL pa) ∧ ∃ x ∈ es.toList, x.val = keyL pb := by
 obtain ⟨es, clock, h1, h2, h3, h4⟩ := MapAt.entries h law5 Try.underlying77 (z23_run W)
 refine ⟨es, clock, h1, h2, fun x hx => ?_, h4 _ _ _ (key5 97 (by omega) (by omega)) rfl, h4 _ _ _ (key5 98 (by omega) (by omega)) rfl⟩
 have := h3 x hx
 unfold encU at this
 split at this
 ·unfold two8 at this
  split at this
  ·injection this with this; exact .inl this.symm
  split at this
  ·injection this with this; exact .inr this.symm
  cases this
 cases this
theorem keyL_inj {a b : List Int} (h : keyL a = keyL b) : a = b := by
 have := decL_key a
 rw [h, decL_key] at this
 injection this with this
 exact this.symm
theorem needL_no {pa pb q : List Int} {ds : List (List Int)} (h : q = pa ∨ q = pb) (hn : q ∉ ds) : needL (some (pa, pb)) ds = false := by
 unfold needL
 rcases h with rfl | rfl
 ·simp [hn]
 simp [hn]
theorem iterSeen_of {w : World} {r : Nat} {m : Option Nat} {s c : Nat} {seen : Array Nat} (h : w.heap[r]? = some (.mapIter m s seen c)) : w.iterSeen r = seen := by
 unfold World.iterSeen
 rw [h]
theorem noGoto_ret {Q : Exit → Act → World → Prop} {a : Act} {w : World} (h : Q Exit.ret a w) : Exit.noGoto Q Exit.ret a w := h
theorem rd23_in (l : List S23) {n : Nat} (h : n < l.length) : rd_T23 l (n : Int) = l[n] := by
 unfold rd_T23
 rw [List.getD_eq_getElem?_getD, Int.toNat_natCast, List.getElem?_eq_getElem h, Option.getD_some]
theorem take_next (l : List S23) {n : Nat} (h : n < l.length) : l.take (n + 1) = l.take n ++ [l[n]] := (List.take_append_getElem h).symm
theorem closed_no {t : List S39} {l : List S23} {p q : S23} (hq : q ∈ l) (h : inR t.length q = false) : closedB t l p = false := by
 unfold closedB
 have : l.all (inR t.length) = false := by
  rw [List.all_eq_false]
  exact ⟨q, hq, by rw [h]; decide⟩
 rw [this]
 simp
theorem closed_no2 {t : List S39} {l : List S23} {p q : S23} (hq : q ∈ l) (h : needB t (l.map l23) q = false) : closedB t l p = false := by
 unfold closedB
 have : l.all (needB t (l.map l23)) = false := by
  rw [List.all_eq_false]
  exact ⟨q, hq, by rw [h]; decide⟩
 rw [this]
 simp
set_option maxHeartbeats 4000000 in
set_option maxRecDepth 100000 in
theorem isClosed_fn.calls (A0 : Option Addr) (c0 : Nat) (l0 : List S39) (hall : allI l0) (hn0 : l0.length ≤ 1000) (A1 : Option Addr) (c1 : Nat) (l : List S23) (p : S23) (hp : I64 p.f0 ∧ I64 p.f1) (w : World) (hr0 : Kd.C k39 w A0 l0.length l0) (hr1 : Kd.C k23 w A1 l.length l) :
  Calls Try.prog 55 #[.slice A0 l0.length c0, .slice A1 l.length c1, .agg #[.int .i64 p.f0, .int .i64 p.f1]] w fun e w' => e = .returned (.bool (closedB l0 l p)) ∧ Below w.heap.size w w' := by
 have hl : (l.length : Int) ≤ 9223372036854775807 := by have := hr1.2.1; omega
 by_cases k1 : l.length ≤ 600
 case neg =>
  have k1b : decide ((600 : Int) < (l.length : Int)) = true := decide_eq_true (by omega)
  have he : closedB l0 l p = false := by unfold closedB; rw [decide_eq_false k1]; rfl
  rw [he]
  clear hr0 hr1 hall he hl k1
  go_enter Try.func55, Try.ntmps55
  go_wp2
  refine wp_scope_straight ?_
  go_wp2
  refine noGoto_ret ?_
  go_big_open
  go_ret
  exact ⟨rfl, below_alloc (Below.refl _ _) _⟩
 have k1b : decide ((600 : Int) < (l.length : Int)) = false := decide_eq_false (by omega)
 have hmm := @run_makeMap Try.prog
 have HS0 := Aside0.mk (show ClSt w ((w.alloc (.cells #[.int .i64 p.f0, .int .i64 p.f1] 23)).alloc (.map #[] 0)) p [] 0 from ⟨below_alloc (below_alloc (Below.refl _ _) _) _, blk_below (heap_alloc_new w _) (below_alloc (Below.refl _ _) _), 0, Nat.le_refl _, by
  have := MapAt.made (w.alloc (.cells #[.int .i64 p.f0, .int .i64 p.f1] 23)) Try.prog 23
  simp only [World.size_alloc] at this
  exact this.congr (fun kv kl _ => by unfold encL inSet; cases decL kv <;> simp)⟩)
 have HL := Aside0.mk k1
 have HN0 := Aside0.mk hn0
 have HR0 := Aside0.mk hr0
 have HR1 := Aside0.mk hr1
 have HAL := Aside0.mk hall
 have HP := Aside0.mk hp
 obtain ⟨R, hR⟩ : ∃ R, R = closedB l0 l p := ⟨_, rfl⟩
 rw [← hR]
 have HRR := Aside0.mk hR
 clear hr0 hr1 hall hp hR hl k1 hn0
 go_enter Try.func55, Try.ntmps55
 go_wp2
 refine wp_scope_straight ?_
 go_wp2
 go_loopw [22] (fun v22 wr => ∃ n : Nat, v22 = .int .i64 (n : Int) ∧ Aside0 (n ≤ l.length ∧ ∀ x ∈ l.take n, inR l0.length x = true) ∧ Aside0 (ClSt w wr p ((l.take n).map l23) n)) (fun v22 _ => l.length - (intOf v22).toNat)
 case atStart => exact ⟨0, rfl, ⟨Nat.zero_le _, by simp⟩, HS0⟩
 clear HS0
 obtain ⟨n, rfl, HI, HS⟩ := hrel
 by_cases k2 : (n : Int) < (l.length : Int)
 ·have k2b : decide ((n : Int) < (l.length : Int)) = true := decide_eq_true k2
  obtain ⟨ad, ea, hx0, hx1⟩ := at_T23 (Kd.C_below HR1.out HS.out.below) (n : Int) (by omega) k2
  subst ea
  obtain ⟨q, hq⟩ : ∃ q, q = rd_T23 l (n : Int) := ⟨_, rfl⟩
  rw [← hq, Int.toNat_natCast] at hx0 hx1
  have k2n : n < l.length := by omega
  rw [rd23_in l k2n] at hq
  have hqm : q ∈ l := hq ▸ List.getElem_mem k2n
  have r0 := eq_true (show (0 : Int) ≤ (n : Int) by omega)
  have r1 := eq_true k2
  have hw1 : wrap64 ((l0.length : Int) - 1) = (l0.length : Int) - 1 := by
   have := HN0.out
   unfold wrap64; omega
  have hw2 : wrap64 ((n : Int) + 1) = ((n + 1 : Nat) : Int) := by unfold wrap64; have := HL.out; omega
  have HW := Aside0.mk hw2
  have HGB := Aside0.mk (heap_alloc_new wr (.cells #[.int .i64 q.f0, .int .i64 q.f1] 23))
  have HSX := Aside0.mk (HS.out.belowN (below_alloc (Below.refl _ _) (.cells #[.int .i64 q.f0, .int .i64 q.f1] 23)))
  have HIX := HI.out
  have HQM := Aside0.mk hqm
  by_cases k3 : ((0 ≤ q.f0 ∧ q.f0 ≤ (l0.length : Int) - 1) ∧ (0 ≤ q.f1 ∧ q.f1 ≤ (l0.length : Int) - 1))
  ·have b1 : decide (0 ≤ q.f0) = true := decide_eq_true k3.1.1
   have b2 : decide (q.f0 ≤ (l0.length : Int) - 1) = true := decide_eq_true k3.1.2
   have b3 : decide (0 ≤ q.f1) = true := decide_eq_true k3.2.1
   have b4 : decide (q.f1 ≤ (l0.length : Int) - 1) = true := decide_eq_true k3.2.2
   have hI : I64 q.f0 ∧ I64 q.f1 := by have := HN0.out; exact ⟨⟨by omega, by omega⟩, ⟨by omega, by omega⟩⟩
   obtain ⟨w4, hst, hS4⟩ := HSX.out.put (by have := HL.out; omega) hI.1 hI.2
   have HS4 := Aside0.mk (show ClSt w w4 p ((l.take (n + 1)).map l23) (n + 1) from by
    rw [take_next l k2n, List.map_append, ← hq]
    exact hS4)
   have HI4 := Aside0.mk (show n + 1 ≤ l.length ∧ ∀ x ∈ l.take (n + 1), inR l0.length x = true from ⟨k2n, fun x hx => by
    rw [take_next l k2n, ← hq] at hx
    rcases List.mem_append.1 hx with hx | hx
    ·exact HIX.2 x hx
    ·simp at hx
     subst hx
     unfold inR
     rw [decide_eq_true k3.1, decide_eq_true k3.2]; rfl⟩)
   have HM := Aside0.mk (show l.length - (n + 1) < l.length - n by omega)
   clear hq hqm HIX k3 hI hS4 HI HS k2 k2n
   go_wp2
   go_roundw
   case rel => exact ⟨n + 1, by rw [HW.out], HI4, HS4⟩
   rw [HW.out]; simpa [intOf] using HM.out
  have hno : inR l0.length q = false := by
   unfold inR
   rw [Bool.and_eq_false_iff]
   by_cases h1 : (0 ≤ q.f0 ∧ q.f0 ≤ (l0.length : Int) - 1)
   ·exact .inr (decide_eq_false (fun h2 => k3 ⟨h1, h2⟩))
   ·exact .inl (decide_eq_false h1)
  have HF := Aside0.mk (show R = false by rw [HRR.out]; exact closed_no hqm hno)
  by_cases k5 : 0 ≤ q.f0 ∧ q.f0 ≤ (l0.length : Int) - 1
  rotate_left
  ·by_cases k6 : 0 ≤ q.f0
   rotate_left
   ·have b1 : decide (0 ≤ q.f0) = false := decide_eq_false k6
    clear hq hqm HIX k3 k5 k6 hno k2 k2n
    go_wp2
    refine noGoto_ret ?_
    go_big_open
    go_ret
    exact ⟨by rw [HF.out]; rfl, HSX.out.below⟩
   have b1 : decide (0 ≤ q.f0) = true := decide_eq_true k6
   have b2 : decide (q.f0 ≤ (l0.length : Int) - 1) = false := decide_eq_false (fun h => k5 ⟨k6, h⟩)
   clear hq hqm HIX k3 k5 k6 hno k2 k2n
   go_wp2
   refine noGoto_ret ?_
   go_big_open
   go_ret
   exact ⟨by rw [HF.out]; rfl, HSX.out.below⟩
  have b1 : decide (0 ≤ q.f0) = true := decide_eq_true k5.1
  have b2 : decide (q.f0 ≤ (l0.length : Int) - 1) = true := decide_eq_true k5.2
  by_cases k6 : 0 ≤ q.f1
  rotate_left
  ·have b3 : decide (0 ≤ q.f1) = false := decide_eq_false k6
   clear hq hqm HIX k3 k5 k6 hno k2 k2n
   go_wp2
   refine noGoto_ret ?_
   go_big_open
   go_ret
   exact ⟨by rw [HF.out]; rfl, HSX.out.below⟩
  have b3 : decide (0 ≤ q.f1) = true := decide_eq_true k6
  have b4 : decide (q.f1 ≤ (l0.length : Int) - 1) = false := decide_eq_false (fun h => k3 ⟨k5, k6, h⟩)
  clear hq hqm HIX k3 k5 k6 hno k2 k2n
  go_wp2
  refine noGoto_ret ?_
  go_big_open
  go_ret
  exact ⟨by rw [HF.out]; rfl, HSX.out.below⟩
 have k2b : decide ((n : Int) < (l.length : Int)) = false := decide_eq_false k2
 obtain rfl : n = l.length := by have := HI.out.1; omega
 have HA := Aside0.mk (show ∀ x ∈ l, inR l0.length x = true by have := HI.out.2; rwa [List.take_length] at this)
 have HS0 := Aside0.mk (show ClSt w wr p (l.map l23) l.length by have := HS.out; rwa [List.take_length] at this)
 clear HI HS k2
 obtain ⟨wa, hwa⟩ : ∃ wa, wa = wr := ⟨_, rfl⟩
 subst hwa
 go_wp2
 refine wp_label ?_
 go_wp2
 go_loopw [7, 47] (fun v7 v47 wr => ∃ j : Nat, v7 = .map (some (w.heap.size + 1)) ∧ v47 = .int .i64 (j : Int) ∧ Aside0 (j ≤ l.length ∧ ∀ x ∈ l.take j, needB l0 (l.map l23) x = true) ∧ Aside0 (ClSt w wr p (l.map l23) l.length)) (fun _ v47 _ => l.length - (intOf v47).toNat)
 case atStart => exact ⟨0, rfl, rfl, ⟨Nat.zero_le _, by simp⟩, HS0⟩
 clear HS0
 obtain ⟨j, rfl, rfl, HI, HS⟩ := hrel
 have hpo := HP.out
 by_cases k3 : (j : Int) < (l.length : Int)
 case neg =>
  have k3b : decide ((j : Int) < (l.length : Int)) = false := decide_eq_false k3
  obtain rfl : j = l.length := by have := HI.out.1; omega
  have hb0 : wr.cell? ⟨w.heap.size, 0, none⟩ = some (.int .i64 p.f0) := (blk_cell HS.out.box 0).trans rfl
  have hb1 : wr.cell? ⟨w.heap.size, 1, none⟩ = some (.int .i64 p.f1) := (blk_cell HS.out.box 1).trans rfl
  obtain ⟨m, hm, hmap⟩ := HS.out.map
  have hlk := inSet_look hmap hpo.1 hpo.2
  have HF := Aside0.mk (show R = decide ([p.f0, p.f1] ∈ l.map l23) from by
   have h2 := HI.out.2
   rw [List.take_length] at h2
   rw [HRR.out]
   unfold closedB
   rw [decide_eq_true HL.out, List.all_eq_true.2 HA.out, List.all_eq_true.2 h2]
   rfl)
  obtain ⟨R', hR'⟩ : ∃ b, b = decide ([p.f0, p.f1] ∈ l.map l23) := ⟨_, rfl⟩
  rw [← hR'] at hlk HF
  clear k3 hm hmap hR'
  go_wp2
  refine noGoto_ret ?_
  go_big_open
  go_ret
  exact ⟨by rw [HF.out]; rfl, HS.out.below⟩
 have k3b : decide ((j : Int) < (l.length : Int)) = true := decide_eq_true k3
 obtain ⟨ad, ea, hx0, hx1⟩ := at_T23 (Kd.C_below HR1.out HS.out.below) (j : Int) (by omega) k3
 subst ea
 obtain ⟨q, hq⟩ : ∃ q, q = rd_T23 l (j : Int) := ⟨_, rfl⟩
 rw [← hq, Int.toNat_natCast] at hx0 hx1
 have k3n : j < l.length := by omega
 rw [rd23_in l k3n] at hq
 have hqm : q ∈ l := hq ▸ List.getElem_mem k3n
 have r0 := eq_true (show (0 : Int) ≤ (j : Int) by omega)
 have r1 := eq_true k3
 have hw2 : wrap64 ((j : Int) + 1) = ((j + 1 : Nat) : Int) := by unfold wrap64; have := HL.out; omega
 have HW := Aside0.mk hw2
 have hin := HA.out q hqm
 unfold inR at hin
 rw [Bool.and_eq_true, decide_eq_true_eq, decide_eq_true_eq] at hin
 have HB := Aside0.mk (show (0 ≤ q.f0 ∧ q.f0 < l0.length) ∧ (0 ≤ q.f1 ∧ q.f1 < l0.length) by omega)
 have HSX := Aside0.mk (HS.out.belowN (below_alloc (Below.refl _ _) (.cells #[.int .i64 q.f0, .int .i64 q.f1] 23)))
 have HNC := Aside0.mk (needs_fn.calls A0 c0 l0 q.f0 q.f1 _ (Kd.C_below HR0.out HSX.out.below) HB.out.1 HB.out.2)
 obtain ⟨nd, hnd⟩ : ∃ nd, nd = needsF (rd_T39 l0 q.f0) (rd_T39 l0 q.f1) := ⟨_, rfl⟩
 rw [← hnd] at HNC
 have HQM := Aside0.mk hqm
 cases nd with
 | none =>
  have HF := Aside0.mk (show R = false by
   rw [HRR.out]
   refine closed_no2 hqm ?_
   unfold needB
   rw [← hnd])
  clear hq hqm hin hnd k3 k3n
  go_wp2_with (go_at_call 51; go_must (
   (with_reducible refine HNC.out.mono ?_); rintro e w1 ⟨hB1, vm, rfl, hN⟩;
   have HS1 := Aside0.mk (HSX.out.belowN hB1);
   have hb0 : w1.cell? ⟨w.heap.size, 0, none⟩ = some (.int .i64 p.f0) := (blk_cell HS1.out.box 0).trans rfl;
   have hb1 : w1.cell? ⟨w.heap.size, 1, none⟩ = some (.int .i64 p.f1) := (blk_cell HS1.out.box 1).trans rfl;
   have hlk := Maps.look_nil (w := w1) false law23 Try.underlying104 (zb_run w1) (key23 hpo.1 hpo.2);
   clear hB1 hN))
  refine noGoto_ret ?_
  go_big_open
  go_ret
  exact ⟨by rw [HF.out]; rfl, HS1.out.below⟩
 | some m =>
  have HND := Aside0.mk hnd
  have hrn := fun (u : World) => run_range_nilMap (P := Try.prog) u 77 5 23 Try.underlying77
  have hqe := hq
  clear hqm hin hnd k3
  have hX : ∀ a : Int, (0 ≤ a ∧ a < l0.length) → I64 (rd_T39 l0 a).f1 ∧ I64 (rd_T39 l0 a).f2 := fun a ha => by
   have hlt : a.toNat < l0.length := by omega
   have : rd_T39 l0 a ∈ l0 := by
    unfold rd_T39
    rw [List.getD_eq_getElem?_getD, List.getElem?_eq_getElem hlt, Option.getD_some]
    exact List.getElem_mem hlt
   exact (HAL.out _ this).2
  have hnx' : ∀ (hm : needL m (l.map l23) = true), j + 1 ≤ l.length ∧ ∀ x ∈ l.take (j + 1), needB l0 (l.map l23) x = true := fun hm => ⟨k3n, fun x hx => by
   rw [take_next l k3n, ← hqe] at hx
   rcases List.mem_append.1 hx with hx | hx
   ·exact HI.out.2 x hx
   ·simp at hx
    subst hx
    unfold needB
    rw [← HND.out]
    exact hm⟩
  have HM := Aside0.mk (show l.length - (j + 1) < l.length - j by omega)
  cases m with
  | none =>
   have HG := Aside0.mk (hnx' rfl)
   clear hnx' hX hq hqe k3n
   go_wp2_with (go_at_call 51; go_must (
    (with_reducible refine HNC.out.mono ?_); rintro e w1 ⟨hB1, vm, rfl, hN⟩;
    obtain rfl : vm = .map none := hN;
    have HS1 := Aside0.mk ((HSX.out.belowN hB1).belowN (below_alloc (Below.refl _ _) (.mapIter none 0 #[] 0)));
    have hnx := fun (ty : TypeId) => run_next_nilMap (P := Try.prog) w1 ty 0 0 #[];
    clear hB1))
   refine wp_loop_rounds 1 ?_
   rw [rounds_succ]
   go_wp2
   go_roundw
   case rel => exact ⟨j + 1, rfl, by rw [HW.out], HG, HS1⟩
   rw [HW.out]; simpa [intOf] using HM.out
  | some pq =>
   obtain ⟨pa, pb⟩ := pq
   have ha := needs_two (rd_T39 l0 q.f0) (rd_T39 l0 q.f1) 97 pa (by rw [← HND.out]; rfl)
   have hb := needs_two (rd_T39 l0 q.f0) (rd_T39 l0 q.f1) 98 pb (by rw [← HND.out]; rfl)
   have hIa := needs_I64 (rd_T39 l0 q.f0) (rd_T39 l0 q.f1) (hX _ HB.out.1) (hX _ HB.out.2) 97 pa (by rw [← HND.out]; rfl)
   have hIb := needs_I64 (rd_T39 l0 q.f0) (rd_T39 l0 q.f1) (hX _ HB.out.1) (hX _ HB.out.2) 98 pb (by rw [← HND.out]; rfl)
   have HV := Aside0.mk (show ∀ v : Value, (v = keyL pa ∨ v = keyL pb) → ∃ q0 q1, v = .agg #[.int .i64 q0, .int .i64 q1] ∧ I64 q0 ∧ I64 q1 ∧ ([q0, q1] = pa ∨ [q0, q1] = pb) from fun v hv => by
    rcases hv with rfl | rfl
    ·exact ⟨(s23 pa).f0, (s23 pa).f1, by rw [ha]; rfl, hIa.1, hIa.2, .inl ha.symm⟩
    ·exact ⟨(s23 pb).f0, (s23 pb).f1, by rw [hb]; rfl, hIb.1, hIb.2, .inr hb.symm⟩)
   have HNO := Aside0.mk (show ∀ q', (q' = pa ∨ q' = pb) → q' ∉ l.map l23 → R = false from fun q' h1 h2 => by
    rw [HRR.out]
    refine closed_no2 HQM.out ?_
    unfold needB
    rw [← HND.out]
    exact needL_no h1 h2)
   have HNX := Aside0.mk hnx'
   clear hnx' hX hq hqe k3n ha hb hIa hIb
   go_wp2_with (go_at_call 51; go_must (
    (with_reducible refine HNC.out.mono ?_); rintro e w1 ⟨hB1, vm, rfl, hN⟩;
    obtain ⟨b, rfl, hbb, hmap⟩ := hN;
    have HS1 := Aside0.mk (HSX.out.belowN hB1);
    obtain ⟨es, clock, hes, hst, hval, hvA, hvB⟩ := needs_entries hmap;
    have hrg := run_range_map (P := Try.prog) w1 77 5 23 b es clock Try.underlying77 hes;
    have HES := Aside0.mk hes;
    have HST := Aside0.mk hst;
    have HVL := Aside0.mk hval;
    have HVA := Aside0.mk hvA;
    have HVB := Aside0.mk hvB;
    clear hB1 hmap hes hst hval hvA hvB hbb))
   clear hrg
   go_loopw [7] (fun v7 wr => ∃ seen, v7 = .map (some (w.heap.size + 1)) ∧ Aside0 (ClIt wr w1.heap.size b es clock seen) ∧ Aside0 (ClSt w wr p (l.map l23) l.length) ∧ Aside0 (∀ x ∈ es.toList, seen.contains x.born = true → ∃ q, x.val = keyL q ∧ q ∈ l.map l23)) (fun _ wr => (leftOf es (wr.iterSeen w1.heap.size)).size)
   case atStart => exact ⟨#[], rfl, ⟨heap_alloc_new w1 _, (heap_alloc_old w1 _ (blk_lt HES.out)).trans HES.out⟩, ⟨HS1.out.belowN (below_alloc (Below.refl _ _) _)⟩, ⟨fun x _ h => by simp at h⟩⟩
   obtain ⟨seen, rfl, HIT, HS2, HSN⟩ := hrel
   have hz1 : w.heap.size + 1 < w1.heap.size := HS1.out.lt
   rcases run_next_at (P := Try.prog) wr 0 w1.heap.size b clock clock seen es clock HIT.out.it HIT.out.map HST.out.1 (Nat.le_refl _) with ⟨h0, hrun⟩ | ⟨e, he, w2, hal, hrun⟩
   ·have hnx : ∀ ty, (Instr.next (.pointer (some ⟨w1.heap.size, 0, none⟩)) false ty).run Try.prog wr = _ := fun _ => hrun
    have HG := Aside0.mk (HNX.out (by
     have hall := all_seen es seen h0
     have key : ∀ p', (∃ x ∈ es.toList, x.val = keyL p') → p' ∈ l.map l23 := fun p' ⟨x, hx, hxv⟩ => by
      obtain ⟨q', h1, h2⟩ := HSN.out x hx (hall x hx)
      rw [hxv] at h1
      rw [keyL_inj h1]; exact h2
     unfold needL
     simp only []
     rw [decide_eq_true (key _ HVA.out), decide_eq_true (key _ HVB.out)]
     rfl))
    clear h0 hrun hz1
    go_wp2
    go_roundw
    case rel => exact ⟨j + 1, rfl, by rw [HW.out], HG, HS2⟩
    rw [HW.out]; simpa [intOf] using HM.out
   obtain ⟨hem, hes⟩ := mem_left he
   obtain ⟨q0, q1, hev, i0, i1, hpq⟩ := HV.out e.val (HVL.out e hem)
   rw [hev] at hrun
   obtain ⟨W2, hW2⟩ : ∃ W2, W2 = setBlock w2 w1.heap.size (.mapIter (some b) clock (seen.push e.born) clock) := ⟨_, rfl⟩
   rw [← hW2] at hrun
   have hnx : ∀ ty, (Instr.next (.pointer (some ⟨w1.heap.size, 0, none⟩)) false ty).run Try.prog wr = _ := fun _ => hrun
   have hb2 : b ≠ w1.heap.size := by
    have := blk_lt HES.out
    omega
   have hS2 : ClSt w w2 p (l.map l23) l.length := by
    rcases hal with rfl | rfl
    ·exact HS2.out
    ·exact HS2.out.belowN (below_drew1 (Below.refl _ _))
   have hI2 : ClIt w2 w1.heap.size b es clock seen := by
    rcases hal with rfl | rfl
    ·exact HIT.out
    ·exact HIT.out.below (below_drew1 (Below.refl _ _))
   have hS3 : ClSt w W2 p (l.map l23) l.length := by rw [hW2]; exact hS2.turned hz1 _
   have hit3 : W2.heap[w1.heap.size]? = some (.mapIter (some b) clock (seen.push e.born) clock) := by
    rw [hW2]
    have := blk_lt hI2.it
    simp [setBlock, this]
   have hm3 : W2.heap[b]? = some (.map es clock) := by rw [hW2, heap_setBlock_ne _ _ _ hb2]; exact hI2.map
   have hen := run_entry_at (P := Try.prog) W2 w1.heap.size b clock seen es clock e hit3 hm3 hem HST.out.2.1
   rw [hev] at hen
   have HMS := Aside0.mk (left_shrinks es seen e he)
   have hS4 := hS3.belowN (below_alloc (Below.refl _ _) (.cells #[.int .i64 q0, .int .i64 q1] 23))
   have hI4 := (show ClIt W2 w1.heap.size b es clock (seen.push e.born) from ⟨hit3, hm3⟩).below (below_alloc (Below.refl _ _) (.cells #[.int .i64 q0, .int .i64 q1] 23))
   obtain ⟨mm, hmm1, hmm2⟩ := hS4.map
   have hlk := inSet_look hmm2 i0 i1
   have HS4 := Aside0.mk hS4
   have HI4 := Aside0.mk hI4
   have HIS := Aside0.mk (iterSeen_of HIT.out.it)
   have hpo := HP.out
   by_cases hmem : [q0, q1] ∈ l.map l23
   ·rw [decide_eq_true hmem] at hlk
    have HSN4 := Aside0.mk (show ∀ x ∈ es.toList, (seen.push e.born).contains x.born = true → ∃ q, x.val = keyL q ∧ q ∈ l.map l23 from fun x hx hc => by
     rw [contains_push, Bool.or_eq_true] at hc
     rcases hc with hc | hc
     ·exact HSN.out x hx hc
     ·have : x = e := born_inj HST.out.2.1 hx hem (beq_iff_eq.1 hc)
      subst this
      exact ⟨[q0, q1], hev, hmem⟩)
    clear hal hrun he hem hes hev hW2 hb2 hS2 hI2 hS3 hit3 hm3 hS4 hI4 hmm1 hmm2 hmem hpq i0 i1 hz1 hpo
    go_wp2
    go_roundw
    case rel => exact ⟨seen.push e.born, rfl, HI4, HS4, HSN4⟩
    rw [HIS.out, iterSeen_of HI4.out.it]; exact HMS.out
   rw [decide_eq_false hmem] at hlk
   have HF := Aside0.mk (HNO.out _ hpq hmem)
   obtain ⟨W4, hW4⟩ : ∃ W4, W4 = W2.alloc (.cells #[.int .i64 q0, .int .i64 q1] 23) := ⟨_, rfl⟩
   have hb0 : (W2.alloc (.cells #[.int .i64 q0, .int .i64 q1] 23)).cell? ⟨w.heap.size, 0, none⟩ = some (.int .i64 p.f0) := (blk_cell HS4.out.box 0).trans rfl
   have hb1 : (W2.alloc (.cells #[.int .i64 q0, .int .i64 q1] 23)).cell? ⟨w.heap.size, 1, none⟩ = some (.int .i64 p.f1) := (blk_cell HS4.out.box 1).trans rfl
   have hln := Maps.look_nil (w := W2.alloc (.cells #[.int .i64 q0, .int .i64 q1] 23)) false law23 Try.underlying104 (zb_run _) (key23 hpo.1 hpo.2)
   clear hal hrun he hem hes hev hW2 hb2 hS2 hI2 hS3 hit3 hm3 hS4 hI4 hmm1 hmm2 hmem hpq i0 i1 hz1 hpo hW4
   go_wp2
   refine noGoto_ret ?_
   go_big_open
   go_ret
   exact ⟨by rw [HF.out]; rfl, HS4.out.below⟩
end Go.Proofs.Ytnfmeafiaipplaa.S

namespace Go.Proofs.Ytnfmeafiaipplaa.S
open Go.Proofs.Ytnfmeafiaipplaa.Lib
open Go.Maps (Keyed)
open Go.RowKit Go.Proofs.YtnfmeafiaipplaaW.PrintWords Go.Proofs.YtnfmeafiaipplaaW.PrintLast Go.Proofs.YtnfmeafiaipplaaW.PrintMore
attribute [local go_sem] max2_int min2_int max_two min_two max_three min_three max_four min_four
set_option linter.unusedVariables false
set_option linter.unusedSimpArgs false

def loops_isClosed.f (l0 : List S39) (l1 : List S23) (a2_0 a2_1 : Int) : Option Bool := if l0.all t39B = true ∧ l0.length ≤ 1000 ∧ i64B a2_0 = true ∧ i64B a2_1 = true then some (closedB l0 l1 ⟨a2_0, a2_1⟩) else none
theorem loops_isClosed.calls (A0 : Option Addr) (c0 : Nat) (l0 : List S39) (A1 : Option Addr) (c1 : Nat) (l1 : List S23) (a2_0 a2_1 : Int) (r : Bool) (w : World) (hr0 : Kd.C k39 w A0 l0.length l0) (hc0 : l0.length ≤ c0) (hr1 : Kd.C k23 w A1 l1.length l1) (hc1 : l1.length ≤ c1) (h : loops_isClosed.f l0 l1 a2_0 a2_1 = some r) :
  Calls Try.prog 55 #[.slice A0 l0.length c0, .slice A1 l1.length c1, .agg #[.int .i64 a2_0, .int .i64 a2_1]] w fun e w' => e = .returned (.bool r) ∧ Below w.heap.size w w' := by
 unfold loops_isClosed.f at h
 split at h
 case isFalse => cases h
 rename_i hh
 obtain ⟨h1, h2, h3, h4⟩ := hh
 obtain rfl := Option.some.inj h
 exact isClosed_fn.calls A0 c0 l0 (t39B_all h1) h2 A1 c1 l1 ⟨a2_0, a2_1⟩ ⟨i64B_I64 h3, i64B_I64 h4⟩ w hr0 hr1

def rfGo (t : List S39) (path : ByteArray) : Nat → Nat → S23 → Option Bool
 | 0, _, _ => none
 | f + 1, i, p =>
  if (0 ≤ p.f0 ∧ p.f0 < t.length) ∧ (0 ≤ p.f1 ∧ p.f1 < t.length) then
   (if h : i < path.data.size then
    match needGet ((needsF (rd_T39 t p.f0) (rd_T39 t p.f1)).getD none) (path.data[i].toNat : Int) with
    | none => some false
    | some q => rfGo t path f (i + 1) (s23 q)
   else some (needsF (rd_T39 t p.f0) (rd_T39 t p.f1)).isNone)
  else none
theorem byte_rng (b : UInt8) : (0 : Int) ≤ (b.toNat : Int) ∧ (b.toNat : Int) ≤ 255 := by
 have := b.toNat_lt
 omega
theorem needs_lookAny {m : Option (List Int × List Int)} {base : Nat} {W : World} {v : Value} (h : NeedsIs m base W v) {c : Int} (hc : 0 ≤ c ∧ c ≤ 255) :
  (Instr.lookup 77 v (.int .u8 c) true).run Try.prog W = .ok (.tuple #[(needGet m c).elim (.agg #[.int .i64 0, .int .i64 0]) keyL, .bool (needGet m c).isSome]) W := by
 have hk := key5 c hc.1 hc.2
 cases m with
 | none =>
  have h' : v = .map none := h
  subst h'
  have := Maps.look_nil (w := W) true law5 Try.underlying77 (z23_run W) hk
  simpa [needGet] using this
 | some p =>
  obtain ⟨pa, pb⟩ := p
  obtain ⟨b, rfl, hb, hm⟩ := h
  have := hm.lookOk law5 Try.underlying77 (z23_run W) hk
  rw [this]
  by_cases h1 : c = 97
  ·simp [encU, two8, needGet, h1]
  by_cases h2 : c = 98 <;> simp [encU, two8, needGet, h1, h2]
/-- What holds in memory all along. -/
structure RfSt (w wr : World) (p : S23) (r : Nat) (path : ByteArray) : Prop where
 below : Below w.heap.size w wr
 box : wr.heap[w.heap.size]? = some (.cells #[.int .i64 p.f0, .int .i64 p.f1] 23 (0, 0))
 row : ∃ cap fr, wr.heap[r]? = some (.cells (bytesRow path cap) 5 fr)
 rlt : w.heap.size < r
theorem RfSt.belowN {w wr wr' : World} {p : S23} {r : Nat} {path : ByteArray} (h : RfSt w wr p r path) (hB : Below wr.heap.size wr wr') : RfSt w wr' p r path := by
 obtain ⟨h1, h2, ⟨c, fr, h3⟩, h4⟩ := h
 exact ⟨below_then h1 h1.size hB, blk_below h2 hB, ⟨c, fr, blk_below h3 hB⟩, h4⟩
theorem RfSt.at {w wr : World} {p : S23} {r : Nat} {path : ByteArray} (h : RfSt w wr p r path) {i : Nat} (hi : i < path.data.size) : wr.cell? ⟨r, i, none⟩ = some (.int .u8 (path.data[i].toNat : Int)) := by
 obtain ⟨h1, h2, ⟨c, fr, h3⟩, h4⟩ := h
 have : wr.cell? ⟨r, i, none⟩ = (bytesRow path c)[i]? := by simp [World.cell?, h3]
 rw [this, bytesRow_at _ _ _ hi]
theorem RfSt.put {w wr : World} {p : S23} {r : Nat} {path : ByteArray} (h : RfSt w wr p r path) (a b : Int) : RfSt w ((wr.setCell ⟨w.heap.size, 0, none⟩ (.int .i64 a)).setCell ⟨w.heap.size, 1, none⟩ (.int .i64 b)) ⟨a, b⟩ r path := by
 obtain ⟨h1, h2, ⟨c, fr, h3⟩, h4⟩ := h
 refine ⟨below_set (below_set h1 (Nat.le_refl _)) (Nat.le_refl _), ?_, ⟨c, fr, ?_⟩, h4⟩
 ·simpa using blk_set (blk_set h2 0 _) 1 _
 rw [Below.heap_setCell _ _ _ _ (by show r ≠ w.heap.size; omega), Below.heap_setCell _ _ _ _ (by show r ≠ w.heap.size; omega)]
 exact h3
set_option maxHeartbeats 4000000 in
set_option maxRecDepth 100000 in
theorem refutes_fn.calls (A0 : Option Addr) (c0 : Nat) (l0 : List S39) (hall : allI l0) (path : ByteArray) (hpl : path.size ≤ 1000000) (p : S23) (r : Bool) (w : World) (hr0 : Kd.C k39 w A0 l0.length l0) (h : rfGo l0 path (path.size + 1) 0 p = some r) :
  Calls Try.prog 56 #[.slice A0 l0.length c0, .string path, .agg #[.int .i64 p.f0, .int .i64 p.f1]] w fun e w' => e = .returned (.bool r) ∧ Below w.heap.size w w' := by
 have hcv := run_bytes_of_string (P := Try.prog) (w.alloc (.cells #[.int .i64 p.f0, .int .i64 p.f1] 23)) 9 102 5 path Try.underlying9 Try.underlying102 Try.underlying5
 obtain ⟨cap, hcap⟩ : ∃ cap, cap = grownCap (w.alloc (.cells #[.int .i64 p.f0, .int .i64 p.f1] 23)) path.size 0 5 := ⟨_, rfl⟩
 rw [← hcap] at hcv
 simp only [World.size_alloc] at hcv
 have HS0 := Aside0.mk (show RfSt w ((w.alloc (.cells #[.int .i64 p.f0, .int .i64 p.f1] 23)).drew.alloc (.cells (bytesRow path cap) 5 ((bytesRow path cap).size, (bytesRow path cap).size + 1))) p (w.heap.size + 1) path from by
  refine ⟨below_alloc (below_drew1 (below_alloc (Below.refl _ _) _)) _, ?_, ⟨cap, ((bytesRow path cap).size, (bytesRow path cap).size + 1), ?_⟩, by omega⟩
  ·exact blk_below (heap_alloc_new w _) (below_alloc (below_drew1 (Below.refl _ _)) _)
  ·have := heap_alloc_new ((w.alloc (.cells #[.int .i64 p.f0, .int .i64 p.f1] 23)).drew) (.cells (bytesRow path cap) 5 ((bytesRow path cap).size, (bytesRow path cap).size + 1))
   simpa using this)
 have H := Aside0.mk h
 have HR0 := Aside0.mk hr0
 have HAL := Aside0.mk hall
 have HPL := Aside0.mk hpl
 clear h hr0 hall hcap hpl
 go_enter Try.func56, Try.ntmps56
 go_wp2
 go_loopw [18] (fun v18 wr => ∃ (i : Nat) (p' : S23), v18 = .int .i64 (i : Int) ∧ Aside0 (i ≤ path.size ∧ rfGo l0 path (path.size + 1 - i) i p' = some r) ∧ Aside0 (RfSt w wr p' (w.heap.size + 1) path)) (fun v18 _ => path.size - (intOf v18).toNat)
 case atStart => exact ⟨0, p, rfl, ⟨Nat.zero_le _, H.out⟩, HS0⟩
 clear HS0
 obtain ⟨i, p', rfl, HI, HS⟩ := hrel
 obtain ⟨hi, hg⟩ := HI.out
 have e1 : path.size + 1 - i = (path.size - i) + 1 := by omega
 rw [e1] at hg
 unfold rfGo at hg
 split at hg
 case isFalse => cases hg
 rename_i hin
 have hb0 : wr.cell? ⟨w.heap.size, 0, none⟩ = some (.int .i64 p'.f0) := (blk_cell HS.out.box 0).trans rfl
 have hb1 : wr.cell? ⟨w.heap.size, 1, none⟩ = some (.int .i64 p'.f1) := (blk_cell HS.out.box 1).trans rfl
 have HB := Aside0.mk hin
 have HNC := Aside0.mk (needs_fn.calls A0 c0 l0 p'.f0 p'.f1 wr (Kd.C_below HR0.out HS.out.below) HB.out.1 HB.out.2)
 obtain ⟨nd, hnd⟩ : ∃ nd, nd = needsF (rd_T39 l0 p'.f0) (rd_T39 l0 p'.f1) := ⟨_, rfl⟩
 rw [← hnd] at HNC hg
 by_cases k2 : i < path.size
 rotate_left
 ·have k2b : decide ((i : Int) < (path.size : Int)) = false := decide_eq_false (by omega)
  have k2c : decide (i < path.size) = false := decide_eq_false k2
  rw [dif_neg (show ¬ i < path.data.size from k2)] at hg
  have HF := Aside0.mk (Option.some.inj hg)
  obtain ⟨isS, hisS⟩ : ∃ b, b = nd.isSome := ⟨_, rfl⟩
  have HIS := Aside0.mk (show r = !isS by rw [← HF.out, hisS]; cases nd <;> rfl)
  have HNC2 := Aside0.mk (show Calls Try.prog 51 #[.slice A0 l0.length c0, .agg #[.int .i64 p'.f0, .int .i64 p'.f1]] wr (fun e w' => Below wr.heap.size wr w' ∧ ∃ v, e = .returned (.tuple #[v, .bool isS]) ∧ NeedsIs (nd.getD none) wr.heap.size w' v) from by rw [hisS]; exact HNC.out)
  clear hg hnd hi hin e1 HI k2 HF hisS
  cases isS with
  | false =>
   go_wp2_with (go_at_call 51; go_must (
    (with_reducible refine HNC2.out.mono ?_); rintro e w1 ⟨hB1, vm, rfl, hN⟩;
    have HS1 := Aside0.mk (HS.out.belowN hB1);
    clear hB1 hN))
   go_ret
   exact ⟨by rw [HIS.out]; rfl, HS1.out.below⟩
  | true =>
   go_wp2_with (go_at_call 51; go_must (
    (with_reducible refine HNC2.out.mono ?_); rintro e w1 ⟨hB1, vm, rfl, hN⟩;
    have HS1 := Aside0.mk (HS.out.belowN hB1);
    clear hB1 hN))
   go_ret
   exact ⟨by rw [HIS.out]; rfl, HS1.out.below⟩
 have k2d : i < path.data.size := k2
 rw [dif_pos k2d] at hg
 have k2b : decide ((i : Int) < (path.size : Int)) = true := decide_eq_true (by omega)
 have hx := HS.out.at k2d
 have hc0 : (0 : Int) ≤ (path.data[i].toNat : Int) ∧ (path.data[i].toNat : Int) ≤ 255 := byte_rng _
 obtain ⟨c, hc⟩ : ∃ c, c = (path.data[i].toNat : Int) := ⟨_, rfl⟩
 rw [← hc] at hx hg hc0
 have r0 := eq_true (show (0 : Int) ≤ (i : Int) by omega)
 have r1 := eq_true (show (i : Int) < (path.size : Int) by omega)
 have hw2 : wrap64 ((i : Int) + 1) = ((i + 1 : Nat) : Int) := by unfold wrap64; have := HPL.out; omega
 have HW := Aside0.mk hw2
 have HC := Aside0.mk hc0
 have HM := Aside0.mk (Nat.sub_lt_sub_left k2 (Nat.lt_succ_self i))
 have HK := Aside0.mk k2
 obtain ⟨m, hm⟩ : ∃ m, m = nd.getD none := ⟨_, rfl⟩
 rw [← hm] at hg
 have HMD := Aside0.mk (show m = (needsF (rd_T39 l0 p'.f0) (rd_T39 l0 p'.f1)).getD none by rw [hm, hnd])
 have HM0 := Aside0.mk hm
 have HD := Aside0.mk hnd
 obtain ⟨isS, hisS⟩ : ∃ b, b = nd.isSome := ⟨_, rfl⟩
 cases hq : needGet m c with
 | none =>
  rw [hq] at hg
  have HF := Aside0.mk (Option.some.inj hg)
  have HQ := Aside0.mk hq
  clear hg hq hc hnd hm k2 k2d hi hin e1 hw2 hc0 HI
  go_wp2_with (go_at_call 51; go_must (
   (with_reducible refine HNC.out.mono ?_); rintro e w1 ⟨hB1, vm, rfl, hN⟩;
   have HS1 := Aside0.mk ((HS.out.belowN hB1).belowN (below_alloc (Below.refl _ _) (.cells #[.int .i64 0, .int .i64 0] 23)));
   have hlk := needs_lookAny (m := m) (HM0.out ▸ hN) HC.out;
   rw [HQ.out] at hlk;
   clear hB1 hN))
  go_ret
  exact ⟨by rw [← HF.out]; rfl, HS1.out.below⟩
 | some q =>
  rw [hq] at hg
  have hX : ∀ a : Int, (0 ≤ a ∧ a < l0.length) → I64 (rd_T39 l0 a).f1 ∧ I64 (rd_T39 l0 a).f2 := fun a ha => by
   have hlt : a.toNat < l0.length := by omega
   have : rd_T39 l0 a ∈ l0 := by
    unfold rd_T39
    rw [List.getD_eq_getElem?_getD, List.getElem?_eq_getElem hlt, Option.getD_some]
    exact List.getElem_mem hlt
   exact (HAL.out _ this).2
  have hq2 := needs_two (rd_T39 l0 p'.f0) (rd_T39 l0 p'.f1) c q (by rw [← HMD.out]; exact hq)
  obtain ⟨q0, q1, hqq⟩ : ∃ q0 q1, q = [q0, q1] := ⟨_, _, hq2⟩
  subst hqq
  have HG := Aside0.mk (show i + 1 ≤ path.size ∧ rfGo l0 path (path.size + 1 - (i + 1)) (i + 1) ⟨q0, q1⟩ = some r from ⟨k2, by
   rw [Nat.add_sub_add_right]; exact hg⟩)
  have HQ := Aside0.mk hq
  clear hg hq hc hnd hm k2 k2d hi hin e1 hw2 hc0 HI hX hq2
  go_wp2_with (go_at_call 51; go_must (
   (with_reducible refine HNC.out.mono ?_); rintro e w1 ⟨hB1, vm, rfl, hN⟩;
   have hs1 := (HS.out.belowN hB1).belowN (below_alloc (Below.refl _ _) (.cells #[.int .i64 q0, .int .i64 q1] 23));
   have hf0 := blk_frozen hs1.box 0;
   have hf1 := blk_frozen hs1.box 1;
   have hd0 : (w1.alloc (.cells #[.int .i64 q0, .int .i64 q1] 23)).cell? ⟨w.heap.size, 0, none⟩ = some (.int .i64 p'.f0) := (blk_cell hs1.box 0).trans rfl;
   have hd1 : (w1.alloc (.cells #[.int .i64 q0, .int .i64 q1] 23)).cell? ⟨w.heap.size, 1, none⟩ = some (.int .i64 p'.f1) := (blk_cell hs1.box 1).trans rfl;
   have HS1 := Aside0.mk (hs1.put q0 q1);
   have hlk : (Instr.lookup 77 vm (.int .u8 c) true).run Try.prog w1 = .ok (.tuple #[.agg #[.int .i64 q0, .int .i64 q1], .bool true]) w1 := by (have hh := needs_lookAny (m := m) (HM0.out ▸ hN) HC.out; rw [HQ.out] at hh; exact hh);
   clear hB1 hN hs1))
  go_roundw
  case rel => exact ⟨i + 1, ⟨q0, q1⟩, by rw [HW.out], HG, HS1⟩
  rw [HW.out]; simpa [intOf] using HM.out

def loops_refutes.f (l0 : List S39) (a1 : ByteArray) (a2_0 a2_1 : Int) : Option Bool := if l0.all t39B = true ∧ a1.size ≤ 1000000 then rfGo l0 a1 (a1.size + 1) 0 ⟨a2_0, a2_1⟩ else none
theorem loops_refutes.calls (A0 : Option Addr) (c0 : Nat) (l0 : List S39) (a1 : ByteArray) (a2_0 a2_1 : Int) (r : Bool) (w : World) (hr0 : Kd.C k39 w A0 l0.length l0) (hc0 : l0.length ≤ c0) (h : loops_refutes.f l0 a1 a2_0 a2_1 = some r) :
  Calls Try.prog 56 #[.slice A0 l0.length c0, .string a1, .agg #[.int .i64 a2_0, .int .i64 a2_1]] w fun e w' => e = .returned (.bool r) ∧ Below w.heap.size w w' := by
 unfold loops_refutes.f at h
 split at h
 case isFalse => cases h
 rename_i hh
 exact refutes_fn.calls A0 c0 l0 (t39B_all hh.1) a1 hh.2 ⟨a2_0, a2_1⟩ r w hr0 h

def loops_Check.j0 : Nat → List (S39) → Bool → Bool → List (S23) → ByteArray → Int → Int → Option (Int)
 | 0, _, _, _, _, _, _, _ => none
 | k + 1, x0, x10, x518000, x518001, x518002, x523000, x523001 => if x518000 = true then (if x10 = true then (some 0) else (some 10)) else (if (x518001.length : Int) = 0 then ((loops_refutes.f x0 x518002 x523000 x523001).bind fun t524 => (if t524 = true then (some 0) else (some 10))) else (some 10))
def loops_Check.f (k : Nat) (l0 : List (S39)) (a1 : Int) (a2 : Int) (a3_0 : Bool) (l3_1 : List (S23)) (a3_2 : ByteArray) : Option (Int) := (loops_areNodes.f k l0 (([a1, a2] : List Int))).bind fun t521 => (if t521 = true then (if a3_2.toList = ([] : List UInt8) then ((loops_isClosed.f l0 l3_1 a1 a2).bind fun t523 => (loops_Check.j0 k l0 t523 a3_0 l3_1 a3_2 a1 a2)) else (loops_Check.j0 k l0 false a3_0 l3_1 a3_2 a1 a2)) else (some 2))
set_option maxHeartbeats 8000000 in
set_option maxRecDepth 100000 in
theorem loops_Check.calls (k : Nat) (A0 : Option Addr) (c0 : Nat) (l0 : List (S39)) (a1 : Int) (a2 : Int) (a3_0 : Bool) (A3_1 : Option Addr) (c3_1 : Nat) (l3_1 : List (S23)) (a3_2 : ByteArray) (r : Int) (w : World) (hr0 : Kd.C k39 w A0 l0.length l0) (hc0 : l0.length ≤ c0) (hr3_1 : Kd.C k23 w A3_1 l3_1.length l3_1) (hc3_1 : l3_1.length ≤ c3_1) (h : loops_Check.f k l0 a1 a2 a3_0 l3_1 a3_2 = some r) :
  Calls Try.prog 35 #[.slice A0 l0.length c0, .int .i64 a1, .int .i64 a2, .agg #[.bool a3_0, .slice A3_1 l3_1.length c3_1, .string a3_2]] w fun e w' => e = .returned (.int .i64 r) ∧ Below w.heap.size w w' := by
 have hu55 := Try.underlying55
 have hu23 := Try.underlying23
 have HR0 := Aside0.mk hr0
 have HC0 := Aside0.mk hc0
 clear hr0 hc0
 have HR3_1 := Aside0.mk hr3_1
 have HC3_1 := Aside0.mk hc3_1
 clear hr3_1 hc3_1
 have HB := Aside0.mk (Below.refl w.heap.size w)
 have H : ((loops_areNodes.f k l0 (([a1, a2] : List Int))).bind fun t521 => (if t521 = true then (if a3_2.toList = ([] : List UInt8) then ((loops_isClosed.f l0 l3_1 a1 a2).bind fun t523 => (loops_Check.j0 k l0 t523 a3_0 l3_1 a3_2 a1 a2)) else (loops_Check.j0 k l0 false a3_0 l3_1 a3_2 a1 a2)) else (some 2))) = some r := h
 clear h
 obtain ⟨y518, hy518⟩ : ∃ y_ : List Int, y_ = (([a1, a2] : List Int)) := ⟨_, rfl⟩
 replace H : ((loops_areNodes.f k l0 y518).bind fun t521 => (if t521 = true then (if a3_2.toList = ([] : List UInt8) then ((loops_isClosed.f l0 l3_1 a1 a2).bind fun t523 => (loops_Check.j0 k l0 t523 a3_0 l3_1 a3_2 a1 a2)) else (loops_Check.j0 k l0 false a3_0 l3_1 a3_2 a1 a2)) else (some 2))) = some r := by first | (rw [hy518]; with_reducible exact H) | (have H2_ := (Option.bind_some _ _).symm.trans H; rw [hy518]; with_reducible exact H2_) | (have H2_ := (Option.bind_some _ _).symm.trans H; with_reducible exact H2_) | with_reducible exact H | (rw [hy518]; exact H) | exact H
 have Ny518 := Aside0.mk hy518
 clear hy518
 replace H := Option.bind_eq_some_iff.mp H
 obtain ⟨t521, A50, H⟩ := H
 replace H : (if t521 = true then (if a3_2.toList = ([] : List UInt8) then ((loops_isClosed.f l0 l3_1 a1 a2).bind fun t523 => (loops_Check.j0 k l0 t523 a3_0 l3_1 a3_2 a1 a2)) else (loops_Check.j0 k l0 false a3_0 l3_1 a3_2 a1 a2)) else (some 2)) = some r := H
 have A5 := Aside0.mk A50
 clear A50
 by_cases c6 : t521 = true
 rotate_left
 ·replace c6 := Bool.eq_false_iff.mpr c6
  subst c6
  have H1 : (some 2) = some r := by rw [if_neg (show ¬ (false = true) by decide)] at H; exact H
  clear H
  have H := H1
  clear H1
  obtain rfl := Option.some.inj H
  go_enter Try.func35, Try.ntmps35
  go_wp2_with (first | ((with_reducible refine gate_dst (N := 7) rfl ?_); refine box_event ?hg (N := 7) ?hd (cs := #[.bool a3_0, .slice A3_1 l3_1.length c3_1, .string a3_2]) (t := 55) ?hr ?_; (case hd => rfl); (case hg => rfl); (case hr => first | (go_simp; done) | (go_simp; rfl)); intro gb517 hg w43 hbox hb; have n0_ := Aside0.mk (below_step (by repeat (first | (with_reducible first | exact HB.out | apply below_alloc | apply pw_below_drewN | apply below_drew1) | exact HB.out)) hb); have n1_ := Aside0.mk (hbox); have n2_ := Aside0.mk ((by rw [hg]; exact (below_size (by repeat (first | (with_reducible first | exact HB.out | apply below_alloc | apply pw_below_drewN | apply below_drew1) | exact HB.out))) : w.heap.size ≤ gb517)); have n3_ := Aside0.mk ((by rw [hg]; exact (below_size (by repeat (first | (with_reducible first | exact HB.out | apply below_alloc | apply pw_below_drewN | apply below_drew1) | exact HB.out))) : w.heap.size ≤ gb517)); clear HB; have HB := n0_; have BK517 := n1_; have GW517 := n2_; have GE517 := n3_; clear n0_ n1_ n2_ n3_; clear hb hbox hg) | ((with_reducible refine gate_dst (N := 14) rfl ?_); refine Kd.R_lit (Kd.int .i64) _ 3 ?hg (N := 14) ?hd (xs := ([a1, a2] : List Int)) (inner := [.int .i64 a1, .int .i64 a2]) (ok := fun _ => True) (okp := fun _ => True) ?hr ?hp (fun _ hk => hk) trivial (Below.refl _ _) (Nat.le_refl _) (by simp) ?_; (case hd => rfl); (case hg => rfl); (case hr => first | (go_simp; done) | (go_simp; rfl)); (case hp => exact (Reps.one (show Kd.M (Kd.int .i64) _ _ _ a1 [.int .i64 a1] from rfl) (Reps.one (show Kd.M (Kd.int .i64) _ _ _ a2 [.int .i64 a2] from rfl) (Reps.none _ _)))); intro v519 w44 ho45 hb hg_ hnew_; clear hg_ hnew_; (first | rw [← Ny518.out] at ho45 | (simp only [Int.reduceToNat] at ho45; rw [← Ny518.out] at ho45)); have n0_ := Aside0.mk (Kd.R_lower ho45 (below_size (by repeat (first | (with_reducible first | exact HB.out | apply below_alloc | apply pw_below_drewN | apply below_drew1 | refine below_set ?_ GE517.out) | exact HB.out)))); have n1_ := Aside0.mk (blk_below (g := gb517) (o := .cells #[.bool a3_0, .slice A3_1 l3_1.length c3_1, .string a3_2] 55 (0, 0)) (by (with_reducible repeat (first | refine blk_drewN ?_ _ | refine blk_drew ?_ | refine blk_alloc ?_ _)); exact BK517.out) hb); have n2_ := Aside0.mk (below_step (by repeat (first | (with_reducible first | exact HB.out | apply below_alloc | apply pw_below_drewN | apply below_drew1 | refine below_set ?_ GE517.out) | exact HB.out)) hb); clear BK517; clear HB; have HO520 := n0_; have BK517 := n1_; have HB := n2_; clear n0_ n1_ n2_; clear hb ho45; obtain ⟨Ao46, co46, eo46⟩ := Kd.R_slice HO520.out; subst eo46) | ((with_reducible refine gate_callee (f := 40) rfl ?_); refine goesL_ (some 15) rfl rfl Try.func40 (by kernel_rfl) rfl #[.slice A0 l0.length c0, .slice Ao46 y518.length co46] rfl (by (try simp only [List.map_toArray, List.map_cons, List.map_nil]); first | done | rfl | (simp only [List.length_drop, List.length_take]; rfl)) ?_; (with_reducible refine (loops_areNodes.calls k _ _ l0 _ _ y518 false _ ?side1 ?side2 ?side3 ?side4 A5.out).mono ?_); (case side1 => repeat (first | exact (Kd.C_below HR0.out HB.out) | (with_reducible refine Kd.C_alloc ?_ _) | (with_reducible refine Kd.C_drewN ?_ _) | (with_reducible refine Kd.C_drew ?_))); (case side2 => exact HC0.out); (case side3 => repeat (first | exact (Kd.R_reads' HO520.out).2.2 | (with_reducible refine Kd.C_alloc ?_ _) | (with_reducible refine Kd.C_drewN ?_ _) | (with_reducible refine Kd.C_drew ?_))); (case side4 => exact (Kd.R_reads' HO520.out).2.1); rintro e w47 ⟨rfl, hb⟩; refine ⟨_, rfl, ?_⟩; have n0_ := Aside0.mk (Kd.R_below (by (with_reducible repeat (first | apply Kd.R_alloc | apply Kd.R_drewN | apply Kd.R_drew)); exact HO520.out) hb); have n1_ := Aside0.mk (blk_below (g := gb517) (o := .cells #[.bool a3_0, .slice A3_1 l3_1.length c3_1, .string a3_2] 55 (0, 0)) (by (with_reducible repeat (first | refine blk_drewN ?_ _ | refine blk_drew ?_ | refine blk_alloc ?_ _)); exact BK517.out) hb); have n2_ := Aside0.mk (below_step (by repeat (first | (with_reducible first | exact HB.out | apply below_alloc | apply pw_below_drewN | apply below_drew1 | refine below_set ?_ GE517.out) | exact HB.out)) hb); clear HO520; clear BK517; clear HB; have HO520 := n0_; have BK517 := n1_; have HB := n2_; clear n0_ n1_ n2_; (try clear hb); (try clear hb2); (try clear hk); (try clear hi)))
  go_ret
  exact ⟨by first | rfl | (simp [errW_none, errW_some] <;> rfl) | (simp [*, errW_none, errW_some] <;> rfl), by repeat (first | (with_reducible first | exact HB.out | apply below_alloc | apply pw_below_drewN | apply below_drew1 | refine below_set ?_ GE517.out) | exact HB.out)⟩
 subst c6
 have H1 : (if a3_2.toList = ([] : List UInt8) then ((loops_isClosed.f l0 l3_1 a1 a2).bind fun t523 => (loops_Check.j0 k l0 t523 a3_0 l3_1 a3_2 a1 a2)) else (loops_Check.j0 k l0 false a3_0 l3_1 a3_2 a1 a2)) = some r := by rw [if_pos rfl] at H; exact H
 clear H
 have H := H1
 clear H1
 have HC7 := Aside0.mk H
 clear H
 go_enter Try.func35, Try.ntmps35
 go_upto_region 4 with (first | ((with_reducible refine gate_dst (N := 7) rfl ?_); refine box_event ?hg (N := 7) ?hd (cs := #[.bool a3_0, .slice A3_1 l3_1.length c3_1, .string a3_2]) (t := 55) ?hr ?_; (case hd => rfl); (case hg => rfl); (case hr => first | (go_simp; done) | (go_simp; rfl)); intro gb517 hg w8 hbox hb; have n0_ := Aside0.mk (below_step (by repeat (first | (with_reducible first | exact HB.out | apply below_alloc | apply pw_below_drewN | apply below_drew1) | exact HB.out)) hb); have n1_ := Aside0.mk (hbox); have n2_ := Aside0.mk ((by rw [hg]; exact (below_size (by repeat (first | (with_reducible first | exact HB.out | apply below_alloc | apply pw_below_drewN | apply below_drew1) | exact HB.out))) : w.heap.size ≤ gb517)); have n3_ := Aside0.mk ((by rw [hg]; exact (below_size (by repeat (first | (with_reducible first | exact HB.out | apply below_alloc | apply pw_below_drewN | apply below_drew1) | exact HB.out))) : w.heap.size ≤ gb517)); clear HB; have HB := n0_; have BK517 := n1_; have GW517 := n2_; have GE517 := n3_; clear n0_ n1_ n2_ n3_; clear hb hbox hg) | ((with_reducible refine gate_dst (N := 14) rfl ?_); refine Kd.R_lit (Kd.int .i64) _ 3 ?hg (N := 14) ?hd (xs := ([a1, a2] : List Int)) (inner := [.int .i64 a1, .int .i64 a2]) (ok := fun _ => True) (okp := fun _ => True) ?hr ?hp (fun _ hk => hk) trivial (Below.refl _ _) (Nat.le_refl _) (by simp) ?_; (case hd => rfl); (case hg => rfl); (case hr => first | (go_simp; done) | (go_simp; rfl)); (case hp => exact (Reps.one (show Kd.M (Kd.int .i64) _ _ _ a1 [.int .i64 a1] from rfl) (Reps.one (show Kd.M (Kd.int .i64) _ _ _ a2 [.int .i64 a2] from rfl) (Reps.none _ _)))); intro v519 w9 ho10 hb hg_ hnew_; clear hg_ hnew_; (first | rw [← Ny518.out] at ho10 | (simp only [Int.reduceToNat] at ho10; rw [← Ny518.out] at ho10)); have n0_ := Aside0.mk (Kd.R_lower ho10 (below_size (by repeat (first | (with_reducible first | exact HB.out | apply below_alloc | apply pw_below_drewN | apply below_drew1 | refine below_set ?_ GE517.out) | exact HB.out)))); have n1_ := Aside0.mk (blk_below (g := gb517) (o := .cells #[.bool a3_0, .slice A3_1 l3_1.length c3_1, .string a3_2] 55 (0, 0)) (by (with_reducible repeat (first | refine blk_drewN ?_ _ | refine blk_drew ?_ | refine blk_alloc ?_ _)); exact BK517.out) hb); have n2_ := Aside0.mk (below_step (by repeat (first | (with_reducible first | exact HB.out | apply below_alloc | apply pw_below_drewN | apply below_drew1 | refine below_set ?_ GE517.out) | exact HB.out)) hb); clear BK517; clear HB; have HO520 := n0_; have BK517 := n1_; have HB := n2_; clear n0_ n1_ n2_; clear hb ho10; obtain ⟨Ao11, co11, eo11⟩ := Kd.R_slice HO520.out; subst eo11) | ((with_reducible refine gate_callee (f := 40) rfl ?_); refine goesL_ (some 15) rfl rfl Try.func40 (by kernel_rfl) rfl #[.slice A0 l0.length c0, .slice Ao11 y518.length co11] rfl (by (try simp only [List.map_toArray, List.map_cons, List.map_nil]); first | done | rfl | (simp only [List.length_drop, List.length_take]; rfl)) ?_; (with_reducible refine (loops_areNodes.calls k _ _ l0 _ _ y518 true _ ?side1 ?side2 ?side3 ?side4 A5.out).mono ?_); (case side1 => repeat (first | exact (Kd.C_below HR0.out HB.out) | (with_reducible refine Kd.C_alloc ?_ _) | (with_reducible refine Kd.C_drewN ?_ _) | (with_reducible refine Kd.C_drew ?_))); (case side2 => exact HC0.out); (case side3 => repeat (first | exact (Kd.R_reads' HO520.out).2.2 | (with_reducible refine Kd.C_alloc ?_ _) | (with_reducible refine Kd.C_drewN ?_ _) | (with_reducible refine Kd.C_drew ?_))); (case side4 => exact (Kd.R_reads' HO520.out).2.1); rintro e w12 ⟨rfl, hb⟩; refine ⟨_, rfl, ?_⟩; have n0_ := Aside0.mk (Kd.R_below (by (with_reducible repeat (first | apply Kd.R_alloc | apply Kd.R_drewN | apply Kd.R_drew)); exact HO520.out) hb); have n1_ := Aside0.mk (blk_below (g := gb517) (o := .cells #[.bool a3_0, .slice A3_1 l3_1.length c3_1, .string a3_2] 55 (0, 0)) (by (with_reducible repeat (first | refine blk_drewN ?_ _ | refine blk_drew ?_ | refine blk_alloc ?_ _)); exact BK517.out) hb); have n2_ := Aside0.mk (below_step (by repeat (first | (with_reducible first | exact HB.out | apply below_alloc | apply pw_below_drewN | apply below_drew1 | refine below_set ?_ GE517.out) | exact HB.out)) hb); clear HO520; clear BK517; clear HB; have HO520 := n0_; have BK517 := n1_; have HB := n2_; clear n0_ n1_ n2_; (try clear hb); (try clear hb2); (try clear hk); (try clear hi)) | ((with_reducible refine gate_dst (N := 9) rfl ?_); refine box_event ?hg (N := 9) ?hd (cs := #[.int .i64 0, .int .i64 0]) (t := 23) ?hr ?_; (case hd => rfl); (case hg => rfl); (case hr => first | (go_simp; done) | (go_simp; rfl)); intro gb522 hg w13 hbox hb; have n0_ := Aside0.mk (Kd.R_below (by (with_reducible repeat (first | apply Kd.R_alloc | apply Kd.R_drewN | apply Kd.R_drew)); exact HO520.out) hb); have n1_ := Aside0.mk (blk_below (g := gb517) (o := .cells #[.bool a3_0, .slice A3_1 l3_1.length c3_1, .string a3_2] 55 (0, 0)) (by (with_reducible repeat (first | refine blk_drewN ?_ _ | refine blk_drew ?_ | refine blk_alloc ?_ _)); exact BK517.out) hb); have n2_ := Aside0.mk (below_step (by repeat (first | (with_reducible first | exact HB.out | apply below_alloc | apply pw_below_drewN | apply below_drew1 | refine below_set ?_ GE517.out) | exact HB.out)) hb); have n3_ := Aside0.mk (hbox); have n4_ := Aside0.mk ((by rw [hg]; exact (below_size (by repeat (first | (with_reducible first | exact HB.out | apply below_alloc | apply pw_below_drewN | apply below_drew1 | refine below_set ?_ GE517.out) | exact HB.out))) : w.heap.size ≤ gb522)); have n5_ := Aside0.mk ((by rw [hg]; exact (below_size (by repeat (first | (with_reducible first | exact HB.out | apply below_alloc | apply pw_below_drewN | apply below_drew1 | refine below_set ?_ GE517.out) | exact HB.out))) : w.heap.size ≤ gb522)); have n6_ := Aside0.mk ((by rw [hg]; exact Nat.ne_of_lt (blk_lt (g := gb517) (o := .cells #[.bool a3_0, .slice A3_1 l3_1.length c3_1, .string a3_2] 55 (0, 0)) (by (with_reducible repeat (first | refine blk_drewN ?_ _ | refine blk_drew ?_ | refine blk_alloc ?_ _)); exact BK517.out)) : gb517 ≠ gb522)); have n7_ := Aside0.mk ((by rw [hg]; exact Nat.ne_of_gt (blk_lt (g := gb517) (o := .cells #[.bool a3_0, .slice A3_1 l3_1.length c3_1, .string a3_2] 55 (0, 0)) (by (with_reducible repeat (first | refine blk_drewN ?_ _ | refine blk_drew ?_ | refine blk_alloc ?_ _)); exact BK517.out)) : gb522 ≠ gb517)); clear HO520; clear BK517; clear HB; have HO520 := n0_; have BK517 := n1_; have HB := n2_; have BK522 := n3_; have GW522 := n4_; have GE522 := n5_; have NB517_522 := n6_; have NB522_517 := n7_; clear n0_ n1_ n2_ n3_ n4_ n5_ n6_ n7_; clear hb hbox hg; have hnb14 := NB522_517.out; have hnc14 := NB517_522.out; have hcz15_0 : w13.cell? ⟨gb522, 0, none⟩ = some (.int .i64 0) := (blk_cell BK522.out 0).trans rfl; have hcz15_1 : w13.cell? ⟨gb522, 1, none⟩ = some (.int .i64 0) := (blk_cell BK522.out 1).trans rfl; have hfz15_0 := blk_frozen BK522.out 0; have hfz15_1 := blk_frozen BK522.out 1))
 (try simp only [Act.put, List.setIfInBounds_toArray, List.set_cons_zero, List.set_cons_succ])
 go_cut [10] (fun v10 wc => ∃ (kq : Nat) (x10_6 : Bool), v10 = .bool x10_6 ∧ Aside0 (loops_Check.j0 kq l0 x10_6 a3_0 l3_1 a3_2 a1 a2 = some r) ∧ Aside0 (kq ≤ k) ∧ Aside0 (wc.heap[gb517]? = some (.cells #[.bool a3_0, (.slice A3_1 l3_1.length c3_1), .string a3_2] 55 (0, 0))) ∧ Aside0 (wc.heap[gb522]? = some (.cells #[.int .i64 a1, .int .i64 a2] 23 (0, 0))) ∧ Aside0 (Below w.heap.size w wc))
 case first =>
  have H := HC7.out
  clear HC7
  by_cases c16 : a3_2.toList = ([] : List UInt8)
  rotate_left
  ·rw [if_neg c16] at H
   have c16b0 : (a3_2.toList == ([] : List UInt8)) = false := beq_eq_false_iff_ne.mpr c16
   have c16b1 : (a3_2.toList != ([] : List UInt8)) = true := bne_iff_ne.mpr c16
   (first | rw [c16b0] | (simp only [i64_w, i32_w]; rw [c16b0]) | skip)
   have H' := Aside0.mk H
   clear H
   have hnb22 := NB517_522.out
   have hnc22 := NB522_517.out
   have hcz23_0 : w13.cell? ⟨gb517, 0, none⟩ = some (.bool a3_0) := (blk_cell BK517.out 0).trans rfl
   have hcz23_1 : w13.cell? ⟨gb517, 1, none⟩ = some (.slice A3_1 l3_1.length c3_1) := (blk_cell BK517.out 1).trans rfl
   have hcz23_2 : w13.cell? ⟨gb517, 2, none⟩ = some (.string a3_2) := (blk_cell BK517.out 2).trans rfl
   have hfz23_0 := blk_frozen BK517.out 0
   have hfz23_1 := blk_frozen BK517.out 1
   have hfz23_2 := blk_frozen BK517.out 2
   go_wp2
   go_meet
   exact ⟨_, (false), (by first | rfl | (simp; done) | (simp [*]; done)), H', ⟨by first | omega | exact Nat.le_refl _⟩, ⟨by (with_reducible repeat (first | refine blk_drewN ?_ _ | refine blk_drew ?_ | refine blk_alloc ?_ _)); refine blk_far ?_ NB517_522.out _; (with_reducible repeat (first | refine blk_drewN ?_ _ | refine blk_drew ?_ | refine blk_alloc ?_ _)); refine blk_far ?_ NB517_522.out _; (with_reducible repeat (first | refine blk_drewN ?_ _ | refine blk_drew ?_ | refine blk_alloc ?_ _)); exact BK517.out⟩, ⟨by (with_reducible repeat (first | refine blk_drewN ?_ _ | refine blk_drew ?_ | refine blk_alloc ?_ _)); refine blk_put (cs := #[.int .i64 a1, .int .i64 0]) ?_ 1 _ rfl; (with_reducible repeat (first | refine blk_drewN ?_ _ | refine blk_drew ?_ | refine blk_alloc ?_ _)); refine blk_put (cs := #[.int .i64 0, .int .i64 0]) ?_ 0 _ rfl; (with_reducible repeat (first | refine blk_drewN ?_ _ | refine blk_drew ?_ | refine blk_alloc ?_ _)); exact BK522.out⟩, ⟨by repeat (first | (with_reducible first | exact HB.out | apply below_alloc | apply pw_below_drewN | apply below_drew1 | refine below_set ?_ GE517.out | refine below_set ?_ GE522.out) | exact HB.out)⟩⟩
  rw [if_pos c16] at H
  have c16b0 : (a3_2.toList == ([] : List UInt8)) = true := beq_iff_eq.mpr c16
  have c16b1 : (a3_2.toList != ([] : List UInt8)) = false := bne_eq_false_iff_eq.mpr c16
  clear c16
  (first | rw [c16b0] | (simp only [i64_w, i32_w]; rw [c16b0]) | skip)
  replace H := Option.bind_eq_some_iff.mp H
  obtain ⟨t523, A170, H⟩ := H
  replace H : (loops_Check.j0 k l0 t523 a3_0 l3_1 a3_2 a1 a2) = some r := H
  have A17 := Aside0.mk A170
  clear A170
  have H' := Aside0.mk H
  clear H
  have hnb18 := NB517_522.out
  have hnc18 := NB522_517.out
  have hcz19_0 : w13.cell? ⟨gb517, 0, none⟩ = some (.bool a3_0) := (blk_cell BK517.out 0).trans rfl
  have hcz19_1 : w13.cell? ⟨gb517, 1, none⟩ = some (.slice A3_1 l3_1.length c3_1) := (blk_cell BK517.out 1).trans rfl
  have hcz19_2 : w13.cell? ⟨gb517, 2, none⟩ = some (.string a3_2) := (blk_cell BK517.out 2).trans rfl
  have hfz19_0 := blk_frozen BK517.out 0
  have hfz19_1 := blk_frozen BK517.out 1
  have hfz19_2 := blk_frozen BK517.out 2
  have hcz20_0 : w13.cell? ⟨gb522, 0, none⟩ = some (.int .i64 0) := (blk_cell BK522.out 0).trans rfl
  have hcz20_1 : w13.cell? ⟨gb522, 1, none⟩ = some (.int .i64 0) := (blk_cell BK522.out 1).trans rfl
  have hfz20_0 := blk_frozen BK522.out 0
  have hfz20_1 := blk_frozen BK522.out 1
  go_wp2_with (first | (go_at_call 55; (with_reducible refine (loops_isClosed.calls _ _ l0 _ _ l3_1 a1 a2 t523 _ ?side1 ?side2 ?side3 ?side4 A17.out).mono ?_); (case side1 => exact Kd.C_below HR0.out (by repeat (first | (with_reducible first | exact HB.out | apply below_alloc | apply pw_below_drewN | apply below_drew1 | refine below_set ?_ GE517.out | refine below_set ?_ GE522.out) | exact HB.out))); (case side2 => exact HC0.out); (case side3 => exact Kd.C_below HR3_1.out (by repeat (first | (with_reducible first | exact HB.out | apply below_alloc | apply pw_below_drewN | apply below_drew1 | refine below_set ?_ GE517.out | refine below_set ?_ GE522.out) | exact HB.out))); (case side4 => exact HC3_1.out); rintro e w21 ⟨rfl, hb⟩; have n0_ := Aside0.mk (Kd.R_below (by (with_reducible repeat (first | apply Kd.R_alloc | apply Kd.R_drewN | apply Kd.R_drew)); exact (Kd.R_mono (Kd.R_far (p := ⟨gb522, 1, none⟩) (Kd.R_far (p := ⟨gb522, 0, none⟩) (Kd.R_types HO520.out BK522.out (by decide)) (fun _ hk => hk.2) (.int .i64 a1)) (fun _ hk => hk.2) (.int .i64 a2)) (fun _ h_ => h_.1))) hb); have n1_ := Aside0.mk (blk_below (g := gb517) (o := .cells #[.bool a3_0, .slice A3_1 l3_1.length c3_1, .string a3_2] 55 (0, 0)) (by (with_reducible repeat (first | refine blk_drewN ?_ _ | refine blk_drew ?_ | refine blk_alloc ?_ _)); refine blk_far ?_ NB517_522.out _; (with_reducible repeat (first | refine blk_drewN ?_ _ | refine blk_drew ?_ | refine blk_alloc ?_ _)); refine blk_far ?_ NB517_522.out _; (with_reducible repeat (first | refine blk_drewN ?_ _ | refine blk_drew ?_ | refine blk_alloc ?_ _)); exact BK517.out) hb); have n2_ := Aside0.mk (blk_below (g := gb522) (o := .cells #[.int .i64 a1, .int .i64 a2] 23 (0, 0)) (by (with_reducible repeat (first | refine blk_drewN ?_ _ | refine blk_drew ?_ | refine blk_alloc ?_ _)); refine blk_put (cs := #[.int .i64 a1, .int .i64 0]) ?_ 1 _ rfl; (with_reducible repeat (first | refine blk_drewN ?_ _ | refine blk_drew ?_ | refine blk_alloc ?_ _)); refine blk_put (cs := #[.int .i64 0, .int .i64 0]) ?_ 0 _ rfl; (with_reducible repeat (first | refine blk_drewN ?_ _ | refine blk_drew ?_ | refine blk_alloc ?_ _)); exact BK522.out) hb); have n3_ := Aside0.mk (below_step (by repeat (first | (with_reducible first | exact HB.out | apply below_alloc | apply pw_below_drewN | apply below_drew1 | refine below_set ?_ GE517.out | refine below_set ?_ GE522.out) | exact HB.out)) hb); clear HO520; clear BK517; clear BK522; clear HB; have HO520 := n0_; have BK517 := n1_; have BK522 := n2_; have HB := n3_; clear n0_ n1_ n2_ n3_; (try clear hb); (try clear hb2); (try clear hk); (try clear hi)))
  go_meet
  exact ⟨_, (t523), (by first | rfl | (simp; done) | (simp [*]; done)), H', ⟨by first | omega | exact Nat.le_refl _⟩, ⟨by (with_reducible repeat (first | refine blk_drewN ?_ _ | refine blk_drew ?_ | refine blk_alloc ?_ _)); exact BK517.out⟩, ⟨by (with_reducible repeat (first | refine blk_drewN ?_ _ | refine blk_drew ?_ | refine blk_alloc ?_ _)); exact BK522.out⟩, ⟨by repeat (first | (with_reducible first | exact HB.out | apply below_alloc | apply pw_below_drewN | apply below_drew1 | refine below_set ?_ GE517.out | refine below_set ?_ GE522.out) | exact HB.out)⟩⟩
 case rest =>
  clear HC7
  try clear c1
  try clear c2
  try clear p2
  try clear c3
  try clear c4
  try clear c6
  try clear c14
  try clear c16
  try clear c16b0
  try clear c16b1
  try clear c18
  try clear c22
  try clear hcz15_0
  try clear hcz15_1
  try clear hcz19_0
  try clear hcz19_1
  try clear hcz19_2
  try clear hcz20_0
  try clear hcz20_1
  try clear hcz23_0
  try clear hcz23_1
  try clear hcz23_2
  try clear hfz15_0
  try clear hfz15_1
  try clear hfz19_0
  try clear hfz19_1
  try clear hfz19_2
  try clear hfz20_0
  try clear hfz20_1
  try clear hfz23_0
  try clear hfz23_1
  try clear hfz23_2
  obtain ⟨kq, x10_6, rfl, HA, HJ6, BK517, BK522, HB⟩ := hcut
  cases kq with
  | zero => exact absurd HA.out (by simp [loops_Check.j0])
  | succ kj6 =>
   have H := HA.out
   clear HA
   simp only [loops_Check.j0] at H
   by_cases c24 : a3_0 = true
   ·subst c24
    have H1 : (if x10_6 = true then (some 0) else (some 10)) = some r := by rw [if_pos rfl] at H; exact H
    clear H
    have H := H1
    clear H1
    by_cases c25 : x10_6 = true
    ·subst c25
     have H1 : (some 0) = some r := by rw [if_pos rfl] at H; exact H
     clear H
     have H := H1
     clear H1
     obtain rfl := Option.some.inj H
     have hnb26 := NB517_522.out
     have hnc26 := NB522_517.out
     have hcz27_0 : wc.cell? ⟨gb517, 0, none⟩ = some (.bool true) := (blk_cell BK517.out 0).trans rfl
     have hcz27_1 : wc.cell? ⟨gb517, 1, none⟩ = some (.slice A3_1 l3_1.length c3_1) := (blk_cell BK517.out 1).trans rfl
     have hcz27_2 : wc.cell? ⟨gb517, 2, none⟩ = some (.string a3_2) := (blk_cell BK517.out 2).trans rfl
     have hfz27_0 := blk_frozen BK517.out 0
     have hfz27_1 := blk_frozen BK517.out 1
     have hfz27_2 := blk_frozen BK517.out 2
     go_wp2
     go_ret
     exact ⟨by first | rfl | (simp [errW_none, errW_some] <;> rfl) | (simp [*, errW_none, errW_some] <;> rfl), by repeat (first | (with_reducible first | exact HB.out | apply below_alloc | apply pw_below_drewN | apply below_drew1 | refine below_set ?_ GE517.out | refine below_set ?_ GE522.out) | exact HB.out)⟩
    replace c25 := Bool.eq_false_iff.mpr c25
    subst c25
    have H1 : (some 10) = some r := by rw [if_neg (show ¬ (false = true) by decide)] at H; exact H
    clear H
    have H := H1
    clear H1
    obtain rfl := Option.some.inj H
    have hnb28 := NB517_522.out
    have hnc28 := NB522_517.out
    have hcz29_0 : wc.cell? ⟨gb517, 0, none⟩ = some (.bool true) := (blk_cell BK517.out 0).trans rfl
    have hcz29_1 : wc.cell? ⟨gb517, 1, none⟩ = some (.slice A3_1 l3_1.length c3_1) := (blk_cell BK517.out 1).trans rfl
    have hcz29_2 : wc.cell? ⟨gb517, 2, none⟩ = some (.string a3_2) := (blk_cell BK517.out 2).trans rfl
    have hfz29_0 := blk_frozen BK517.out 0
    have hfz29_1 := blk_frozen BK517.out 1
    have hfz29_2 := blk_frozen BK517.out 2
    go_wp2
    go_ret
    exact ⟨by first | rfl | (simp [errW_none, errW_some] <;> rfl) | (simp [*, errW_none, errW_some] <;> rfl), by repeat (first | (with_reducible first | exact HB.out | apply below_alloc | apply pw_below_drewN | apply below_drew1 | refine below_set ?_ GE517.out | refine below_set ?_ GE522.out) | exact HB.out)⟩
   replace c24 := Bool.eq_false_iff.mpr c24
   subst c24
   have H1 : (if (l3_1.length : Int) = 0 then ((loops_refutes.f l0 a3_2 a1 a2).bind fun t524 => (if t524 = true then (some 0) else (some 10))) else (some 10)) = some r := by rw [if_neg (show ¬ (false = true) by decide)] at H; exact H
   clear H
   have H := H1
   clear H1
   by_cases c30 : (l3_1.length : Int) = 0
   rotate_left
   ·rw [if_neg c30] at H
    have c30b0 : ((l3_1.length : Int) == 0) = false := beq_eq_false_iff_ne.mpr c30
    have c30b1 : ((l3_1.length : Int) != 0) = true := bne_iff_ne.mpr c30
    have c30b2 : ¬ (l3_1 = []) := fun h_ => c30 (by rw [h_]; rfl)
    obtain rfl := Option.some.inj H
    have hnb41 := NB517_522.out
    have hnc41 := NB522_517.out
    have hcz42_0 : wc.cell? ⟨gb517, 0, none⟩ = some (.bool false) := (blk_cell BK517.out 0).trans rfl
    have hcz42_1 : wc.cell? ⟨gb517, 1, none⟩ = some (.slice A3_1 l3_1.length c3_1) := (blk_cell BK517.out 1).trans rfl
    have hcz42_2 : wc.cell? ⟨gb517, 2, none⟩ = some (.string a3_2) := (blk_cell BK517.out 2).trans rfl
    have hfz42_0 := blk_frozen BK517.out 0
    have hfz42_1 := blk_frozen BK517.out 1
    have hfz42_2 := blk_frozen BK517.out 2
    go_wp2
    go_ret
    exact ⟨by first | rfl | (simp [errW_none, errW_some] <;> rfl) | (simp [*, errW_none, errW_some] <;> rfl), by repeat (first | (with_reducible first | exact HB.out | apply below_alloc | apply pw_below_drewN | apply below_drew1 | refine below_set ?_ GE517.out | refine below_set ?_ GE522.out) | exact HB.out)⟩
   rw [if_pos c30] at H
   have c30b0 : ((l3_1.length : Int) == 0) = true := beq_iff_eq.mpr c30
   have c30b1 : ((l3_1.length : Int) != 0) = false := bne_eq_false_iff_eq.mpr c30
   clear c30
   replace H := Option.bind_eq_some_iff.mp H
   obtain ⟨t524, A310, H⟩ := H
   replace H : (if t524 = true then (some 0) else (some 10)) = some r := H
   have A31 := Aside0.mk A310
   clear A310
   by_cases c32 : t524 = true
   ·subst c32
    have H1 : (some 0) = some r := by rw [if_pos rfl] at H; exact H
    clear H
    have H := H1
    clear H1
    obtain rfl := Option.some.inj H
    have hnb33 := NB517_522.out
    have hnc33 := NB522_517.out
    have hcz34_0 : wc.cell? ⟨gb517, 0, none⟩ = some (.bool false) := (blk_cell BK517.out 0).trans rfl
    have hcz34_1 : wc.cell? ⟨gb517, 1, none⟩ = some (.slice A3_1 l3_1.length c3_1) := (blk_cell BK517.out 1).trans rfl
    have hcz34_2 : wc.cell? ⟨gb517, 2, none⟩ = some (.string a3_2) := (blk_cell BK517.out 2).trans rfl
    have hfz34_0 := blk_frozen BK517.out 0
    have hfz34_1 := blk_frozen BK517.out 1
    have hfz34_2 := blk_frozen BK517.out 2
    have hcz35_0 : wc.cell? ⟨gb522, 0, none⟩ = some (.int .i64 a1) := (blk_cell BK522.out 0).trans rfl
    have hcz35_1 : wc.cell? ⟨gb522, 1, none⟩ = some (.int .i64 a2) := (blk_cell BK522.out 1).trans rfl
    have hfz35_0 := blk_frozen BK522.out 0
    have hfz35_1 := blk_frozen BK522.out 1
    go_wp2_with (first | (go_at_call 56; (with_reducible refine (loops_refutes.calls _ _ l0 a3_2 a1 a2 true _ ?side1 ?side2 A31.out).mono ?_); (case side1 => repeat (first | exact (Kd.C_below HR0.out HB.out) | (with_reducible refine Kd.C_alloc ?_ _) | (with_reducible refine Kd.C_drewN ?_ _) | (with_reducible refine Kd.C_drew ?_))); (case side2 => exact HC0.out); rintro e w36 ⟨rfl, hb⟩; have n0_ := Aside0.mk (blk_below (g := gb517) (o := .cells #[.bool false, .slice A3_1 l3_1.length c3_1, .string a3_2] 55 (0, 0)) (by (with_reducible repeat (first | refine blk_drewN ?_ _ | refine blk_drew ?_ | refine blk_alloc ?_ _)); exact BK517.out) hb); have n1_ := Aside0.mk (blk_below (g := gb522) (o := .cells #[.int .i64 a1, .int .i64 a2] 23 (0, 0)) (by (with_reducible repeat (first | refine blk_drewN ?_ _ | refine blk_drew ?_ | refine blk_alloc ?_ _)); exact BK522.out) hb); have n2_ := Aside0.mk (below_step (by repeat (first | (with_reducible first | exact HB.out | apply below_alloc | apply pw_below_drewN | apply below_drew1 | refine below_set ?_ GE517.out | refine below_set ?_ GE522.out) | exact HB.out)) hb); clear BK517; clear BK522; clear HB; have BK517 := n0_; have BK522 := n1_; have HB := n2_; clear n0_ n1_ n2_; (try clear hb); (try clear hb2); (try clear hk); (try clear hi)))
    go_ret
    exact ⟨by first | rfl | (simp [errW_none, errW_some] <;> rfl) | (simp [*, errW_none, errW_some] <;> rfl), by repeat (first | (with_reducible first | exact HB.out | apply below_alloc | apply pw_below_drewN | apply below_drew1 | refine below_set ?_ GE517.out | refine below_set ?_ GE522.out) | exact HB.out)⟩
   replace c32 := Bool.eq_false_iff.mpr c32
   subst c32
   have H1 : (some 10) = some r := by rw [if_neg (show ¬ (false = true) by decide)] at H; exact H
   clear H
   have H := H1
   clear H1
   obtain rfl := Option.some.inj H
   have hnb37 := NB517_522.out
   have hnc37 := NB522_517.out
   have hcz38_0 : wc.cell? ⟨gb517, 0, none⟩ = some (.bool false) := (blk_cell BK517.out 0).trans rfl
   have hcz38_1 : wc.cell? ⟨gb517, 1, none⟩ = some (.slice A3_1 l3_1.length c3_1) := (blk_cell BK517.out 1).trans rfl
   have hcz38_2 : wc.cell? ⟨gb517, 2, none⟩ = some (.string a3_2) := (blk_cell BK517.out 2).trans rfl
   have hfz38_0 := blk_frozen BK517.out 0
   have hfz38_1 := blk_frozen BK517.out 1
   have hfz38_2 := blk_frozen BK517.out 2
   have hcz39_0 : wc.cell? ⟨gb522, 0, none⟩ = some (.int .i64 a1) := (blk_cell BK522.out 0).trans rfl
   have hcz39_1 : wc.cell? ⟨gb522, 1, none⟩ = some (.int .i64 a2) := (blk_cell BK522.out 1).trans rfl
   have hfz39_0 := blk_frozen BK522.out 0
   have hfz39_1 := blk_frozen BK522.out 1
   go_wp2_with (first | (go_at_call 56; (with_reducible refine (loops_refutes.calls _ _ l0 a3_2 a1 a2 false _ ?side1 ?side2 A31.out).mono ?_); (case side1 => repeat (first | exact (Kd.C_below HR0.out HB.out) | (with_reducible refine Kd.C_alloc ?_ _) | (with_reducible refine Kd.C_drewN ?_ _) | (with_reducible refine Kd.C_drew ?_))); (case side2 => exact HC0.out); rintro e w40 ⟨rfl, hb⟩; have n0_ := Aside0.mk (blk_below (g := gb517) (o := .cells #[.bool false, .slice A3_1 l3_1.length c3_1, .string a3_2] 55 (0, 0)) (by (with_reducible repeat (first | refine blk_drewN ?_ _ | refine blk_drew ?_ | refine blk_alloc ?_ _)); exact BK517.out) hb); have n1_ := Aside0.mk (blk_below (g := gb522) (o := .cells #[.int .i64 a1, .int .i64 a2] 23 (0, 0)) (by (with_reducible repeat (first | refine blk_drewN ?_ _ | refine blk_drew ?_ | refine blk_alloc ?_ _)); exact BK522.out) hb); have n2_ := Aside0.mk (below_step (by repeat (first | (with_reducible first | exact HB.out | apply below_alloc | apply pw_below_drewN | apply below_drew1 | refine below_set ?_ GE517.out | refine below_set ?_ GE522.out) | exact HB.out)) hb); clear BK517; clear BK522; clear HB; have BK517 := n0_; have BK522 := n1_; have HB := n2_; clear n0_ n1_ n2_; (try clear hb); (try clear hb2); (try clear hk); (try clear hi)))
   go_ret
   exact ⟨by first | rfl | (simp [errW_none, errW_some] <;> rfl) | (simp [*, errW_none, errW_some] <;> rfl), by repeat (first | (with_reducible first | exact HB.out | apply below_alloc | apply pw_below_drewN | apply below_drew1 | refine below_set ?_ GE517.out | refine below_set ?_ GE522.out) | exact HB.out)⟩

def tickinglaw06_finding.f (a0_0 : Bool) (l0_1 : List (S23)) (a0_2 : ByteArray) : Option (Bool × (List (S23)) × ByteArray) := if 0 ≤ (mn (a0_2.size : Int) 700) then (if (mn (a0_2.size : Int) 700) ≤ (a0_2.size : Int) then (if 0 ≤ (mn (l0_1.length : Int) 601) then (if (mn (l0_1.length : Int) 601) ≤ (l0_1.length : Int) then ((some (l0_1.take ((mn (l0_1.length : Int) 601) : Int).toNat : List (S23))).bind fun y549 => (if ([] : List (S23)).length + y549.length < 8796093022208 then (some (a0_0, (([] : List (S23)) ++ y549), a0_2.extract 0 ((mn (a0_2.size : Int) 700) : Int).toNat)) else (none))) else (none)) else (none)) else (none)) else (none)
def tickinglaw06_finding.T1 : Bool × List (List Nat × List Nat) := (true, [([], []), ([0], [0]), ([], []), ([2], [2]), ([], []), ([4], [4]), ([5], [5]), ([6], [6]), ([3, 7], [3, 7]), ([1, 8], [1, 8]), ([], []), ([10, 9, 0, 1, 2, 3, 4, 5, 6, 7, 8, 9, 10], [9, 10])])
def tickinglaw06_finding.B1 : List Nat := [0, 1, 0, 4, 0, 16, 48, 112, 252, 511, 0, 2047]
theorem tickinglaw06_finding.tab1 : rtab .any (opsOf Try.f36 1) = tickinglaw06_finding.T1 := by kernel_rfl
theorem tickinglaw06_finding.bits1 : waitsOk tickinglaw06_finding.T1.2 tickinglaw06_finding.B1 = true := by kernel_rfl
set_option maxHeartbeats 8000000 in
set_option maxRecDepth 100000 in
theorem tickinglaw06_finding.calls (a0_0 : Bool) (A0_1 : Option Addr) (c0_1 : Nat) (l0_1 : List (S23)) (a0_2 : ByteArray) (r1 : Bool) (r2 : List (S23)) (r3 : ByteArray) (w : World) (hr0_1 : Kd.C k23 w A0_1 l0_1.length l0_1) (hc0_1 : l0_1.length ≤ c0_1) (h : tickinglaw06_finding.f a0_0 l0_1 a0_2 = some (r1, r2, r3)) :
  Calls Try.prog 36 #[.agg #[.bool a0_0, .slice A0_1 l0_1.length c0_1, .string a0_2]] w fun e w' => ∃ v1_ : Value, e = .returned (.agg #[.bool r1, v1_, .string r3]) ∧ Kd.R k23 23 w' w.heap.size (fun _ => True) v1_ r2 ∧ Below w.heap.size w w' := by
 have hu55 := Try.underlying55
 have HR0_1 := Aside0.mk hr0_1
 have HC0_1 := Aside0.mk hc0_1
 clear hr0_1 hc0_1
 have HB := Aside0.mk (Below.refl w.heap.size w)
 have H : (if 0 ≤ (mn (a0_2.size : Int) 700) then (if (mn (a0_2.size : Int) 700) ≤ (a0_2.size : Int) then (if 0 ≤ (mn (l0_1.length : Int) 601) then (if (mn (l0_1.length : Int) 601) ≤ (l0_1.length : Int) then ((some (l0_1.take ((mn (l0_1.length : Int) 601) : Int).toNat : List (S23))).bind fun y549 => (if ([] : List (S23)).length + y549.length < 8796093022208 then (some (a0_0, (([] : List (S23)) ++ y549), a0_2.extract 0 ((mn (a0_2.size : Int) 700) : Int).toNat)) else (none))) else (none)) else (none)) else (none)) else (none)) = some (r1, r2, r3) := h
 clear h
 obtain ⟨ji2, hji2⟩ : ∃ j_ : Int, (mn (a0_2.size : Int) 700) = j_ := ⟨_, rfl⟩
 replace H : (if 0 ≤ (ji2) then (if (ji2) ≤ (a0_2.size : Int) then (if 0 ≤ (mn (l0_1.length : Int) 601) then (if (mn (l0_1.length : Int) 601) ≤ (l0_1.length : Int) then ((some (l0_1.take ((mn (l0_1.length : Int) 601) : Int).toNat : List (S23))).bind fun y549 => (if ([] : List (S23)).length + y549.length < 8796093022208 then (some (a0_0, (([] : List (S23)) ++ y549), a0_2.extract 0 ((ji2) : Int).toNat)) else (none))) else (none)) else (none)) else (none)) else (none)) = some (r1, r2, r3) := by first | (rw [hji2] at H; exact H) | (simp only [hji2] at H ⊢; exact H)
 (try (have hji2h : ji2 ≤ 700 := by (rw [← hji2]; unfold mn; (repeat' split) <;> omega)))
 (try (have hji2g : ji2 ≤ 64 := by omega))
 (try (have hji2l : 0 ≤ ji2 := by (rw [← hji2]; unfold mn; (repeat' split) <;> omega)))
 (try (have hji2m : 0 ≤ ji2 := by omega))
 have hji2_ : (if 700 < (a0_2.size : Int) then 700 else (a0_2.size : Int)) = ji2 := hji2
 by_cases c3 : 0 ≤ (ji2)
 rotate_left
 ·rw [if_neg c3] at H
  exact absurd H (by simp)
 rw [if_pos c3] at H
 have c3b0 := eq_true c3
 have c3b1 : decide (0 ≤ (ji2)) = true := decide_eq_true c3
 clear c3
 by_cases c4 : (ji2) ≤ (a0_2.size : Int)
 rotate_left
 ·rw [if_neg c4] at H
  exact absurd H (by simp)
 rw [if_pos c4] at H
 have c4b0 := eq_true c4
 have c4b1 : decide ((ji2) ≤ (a0_2.size : Int)) = true := decide_eq_true c4
 clear c4
 obtain ⟨ji5, hji5⟩ : ∃ j_ : Int, (mn (l0_1.length : Int) 601) = j_ := ⟨_, rfl⟩
 replace H : (if 0 ≤ (ji5) then (if (ji5) ≤ (l0_1.length : Int) then ((some (l0_1.take ((ji5) : Int).toNat : List (S23))).bind fun y549 => (if ([] : List (S23)).length + y549.length < 8796093022208 then (some (a0_0, (([] : List (S23)) ++ y549), a0_2.extract 0 ((ji2) : Int).toNat)) else (none))) else (none)) else (none)) = some (r1, r2, r3) := by first | (rw [hji5] at H; exact H) | (simp only [hji5] at H ⊢; exact H)
 (try (have hji5h : ji5 ≤ 601 := by (rw [← hji5]; unfold mn; (repeat' split) <;> omega)))
 (try (have hji5g : ji5 ≤ 64 := by omega))
 (try (have hji5l : 0 ≤ ji5 := by (rw [← hji5]; unfold mn; (repeat' split) <;> omega)))
 (try (have hji5m : 0 ≤ ji5 := by omega))
 have hji5_ : (if 601 < (l0_1.length : Int) then 601 else (l0_1.length : Int)) = ji5 := hji5
 by_cases c6 : 0 ≤ (ji5)
 rotate_left
 ·rw [if_neg c6] at H
  exact absurd H (by simp)
 rw [if_pos c6] at H
 have c6b0 := eq_true c6
 have c6b1 : decide (0 ≤ (ji5)) = true := decide_eq_true c6
 clear c6
 by_cases c7 : (ji5) ≤ (l0_1.length : Int)
 rotate_left
 ·rw [if_neg c7] at H
  exact absurd H (by simp)
 rw [if_pos c7] at H
 have c7b0 := eq_true c7
 have c7b1 : decide ((ji5) ≤ (l0_1.length : Int)) = true := decide_eq_true c7
 clear c7
 obtain ⟨y549, hy549⟩ : ∃ y_ : List (S23), y_ = (l0_1.take ((ji5) : Int).toNat) := ⟨_, rfl⟩
 replace H : (if ([] : List (S23)).length + y549.length < 8796093022208 then (some (a0_0, (([] : List (S23)) ++ y549), a0_2.extract 0 ((ji2) : Int).toNat)) else (none)) = some (r1, r2, r3) := by first | (rw [hy549]; with_reducible exact H) | (have H2_ := (Option.bind_some _ _).symm.trans H; rw [hy549]; with_reducible exact H2_) | (have H2_ := (Option.bind_some _ _).symm.trans H; with_reducible exact H2_) | with_reducible exact H | (rw [hy549]; exact H) | exact H
 have Ny549 := Aside0.mk hy549
 clear hy549
 by_cases c8 : ([] : List (S23)).length + y549.length < 8796093022208
 rotate_left
 ·rw [if_neg c8] at H
  exact absurd H (by simp)
 rw [if_pos c8] at H
 have LMc8 := Aside0.mk c8
 clear c8
 obtain ⟨y553, hy553⟩ : ∃ y_ : List (S23), y_ = (([] : List (S23)) ++ y549) := ⟨_, rfl⟩
 replace H : (some (a0_0, y553, a0_2.extract 0 ((ji2) : Int).toNat)) = some (r1, r2, r3) := by first | (rw [hy553]; with_reducible exact H) | (have H2_ := (Option.bind_some _ _).symm.trans H; rw [hy553]; with_reducible exact H2_) | (have H2_ := (Option.bind_some _ _).symm.trans H; with_reducible exact H2_) | with_reducible exact H | (rw [hy553]; exact H) | exact H
 have Ny553 := Aside0.mk hy553
 clear hy553
 simp only [Option.some.injEq, Prod.mk.injEq] at H
 obtain ⟨rfl, rfl, rfl⟩ := H
 go_enter Try.func36, Try.ntmps36
 try go_wp2_with (first | ((with_reducible refine gate_dst (N := 1) rfl ?_); refine box_event ?hg (N := 1) ?hd (cs := #[.bool a0_0, .slice A0_1 l0_1.length c0_1, .string a0_2]) (t := 55) ?hr ?_; (case hd => rfl); (case hg => rfl); (case hr => first | (go_simp; done) | (go_simp; rfl)); intro gb546 hg w9 hbox hb; have n0_ := Aside0.mk (below_step (by repeat (first | (with_reducible first | exact HB.out | apply below_alloc | apply pw_below_drewN | apply below_drew1) | exact HB.out)) hb); have n1_ := Aside0.mk (hbox); have n2_ := Aside0.mk ((by rw [hg]; exact (below_size (by repeat (first | (with_reducible first | exact HB.out | apply below_alloc | apply pw_below_drewN | apply below_drew1) | exact HB.out))) : w.heap.size ≤ gb546)); have n3_ := Aside0.mk ((by rw [hg]; exact (below_size (by repeat (first | (with_reducible first | exact HB.out | apply below_alloc | apply pw_below_drewN | apply below_drew1) | exact HB.out))) : w.heap.size ≤ gb546)); clear HB; have HB := n0_; have BK546 := n1_; have GW546 := n2_; have GE546 := n3_; clear n0_ n1_ n2_ n3_; clear hb hbox hg) | ((with_reducible refine gate_dst (N := 2) rfl ?_); refine box_event ?hg (N := 2) ?hd (cs := #[.bool false, .slice none 0 0, .string (⟨#[]⟩ : ByteArray)]) (t := 55) ?hr ?_; (case hd => rfl); (case hg => rfl); (case hr => first | (go_simp; done) | (go_simp; rfl)); intro gb547 hg w10 hbox hb; have n0_ := Aside0.mk (blk_below (g := gb546) (o := .cells #[.bool a0_0, .slice A0_1 l0_1.length c0_1, .string a0_2] 55 (0, 0)) (by (with_reducible repeat (first | refine blk_drewN ?_ _ | refine blk_drew ?_ | refine blk_alloc ?_ _)); exact BK546.out) hb); have n1_ := Aside0.mk (below_step (by repeat (first | (with_reducible first | exact HB.out | apply below_alloc | apply pw_below_drewN | apply below_drew1 | refine below_set ?_ GE546.out) | exact HB.out)) hb); have n2_ := Aside0.mk (hbox); have n3_ := Aside0.mk ((by rw [hg]; exact (below_size (by repeat (first | (with_reducible first | exact HB.out | apply below_alloc | apply pw_below_drewN | apply below_drew1 | refine below_set ?_ GE546.out) | exact HB.out))) : w.heap.size ≤ gb547)); have n4_ := Aside0.mk ((by rw [hg]; exact (below_size (by repeat (first | (with_reducible first | exact HB.out | apply below_alloc | apply pw_below_drewN | apply below_drew1 | refine below_set ?_ GE546.out) | exact HB.out))) : w.heap.size ≤ gb547)); have n5_ := Aside0.mk ((by rw [hg]; exact Nat.ne_of_lt (blk_lt (g := gb546) (o := .cells #[.bool a0_0, .slice A0_1 l0_1.length c0_1, .string a0_2] 55 (0, 0)) (by (with_reducible repeat (first | refine blk_drewN ?_ _ | refine blk_drew ?_ | refine blk_alloc ?_ _)); exact BK546.out)) : gb546 ≠ gb547)); have n6_ := Aside0.mk ((by rw [hg]; exact Nat.ne_of_gt (blk_lt (g := gb546) (o := .cells #[.bool a0_0, .slice A0_1 l0_1.length c0_1, .string a0_2] 55 (0, 0)) (by (with_reducible repeat (first | refine blk_drewN ?_ _ | refine blk_drew ?_ | refine blk_alloc ?_ _)); exact BK546.out)) : gb547 ≠ gb546)); clear BK546; clear HB; have BK546 := n0_; have HB := n1_; have BK547 := n2_; have GW547 := n3_; have GE547 := n4_; have NB546_547 := n5_; have NB547_546 := n6_; clear n0_ n1_ n2_ n3_ n4_ n5_ n6_; clear hb hbox hg))
 have n0_ := Aside0.mk (blk_drew BK546.out)
 have n1_ := Aside0.mk (blk_drew BK547.out)
 have n2_ := Aside0.mk (below_drew1 HB.out)
 clear BK546
 clear BK547
 clear HB
 have BK546 := n0_
 have BK547 := n1_
 have HB := n2_
 clear n0_ n1_ n2_
 refine start_ (n := 12) (S := fun w' => w'.cell? ⟨gb546, 0, none⟩ = some (.bool a0_0) ∧ w'.cell? ⟨gb546, 1, none⟩ = some (.slice A0_1 l0_1.length c0_1) ∧ w'.cell? ⟨gb546, 2, none⟩ = some (.string a0_2)) (ds := []) #[false, false, false, false, false, false, false, false, false, false, false, false] (by kernel_rfl) rfl rfl ⟨(blk_cell BK546.out 0).trans rfl, (blk_cell BK546.out 1).trans rfl, (blk_cell BK546.out 2).trans rfl⟩ (fun hHeld => ?_); refine with_tabW tickinglaw06_finding.tab1 tickinglaw06_finding.bits1 (fun HT_ HW_ => ?_)
 generalize w10.drew = w11 at BK546 BK547 HB hHeld ⊢
 refine pure_ (i := 0) (N := some 5) (v := ?_) (a' := ?_) #[true, false, false, false, false, false, false, false, false, false, false, false] rfl rfl (any_of HT_.out (by kernel_rfl)) (fun _ _ _ h => h) (Or.inl ⟨by rfl, ?_⟩) ?_ ?_
 rotate_left
 ·intro w'
  go_simp
  with_reducible rfl
 rotate_left
 ·simp only [Act.put, List.setIfInBounds_toArray, List.set_cons_zero, List.set_cons_succ, i64_w, i32_w]
  rfl
 refine pure_ (i := 2) (N := some 7) (v := ?_) (a' := ?_) #[true, false, true, false, false, false, false, false, false, false, false, false] rfl rfl (any_of HT_.out (by kernel_rfl)) (fun _ _ _ h => h) (Or.inl ⟨by rfl, ?_⟩) ?_ ?_
 rotate_left
 ·intro w'
  go_simp
  with_reducible rfl
 rotate_left
 ·simp only [Act.put, List.setIfInBounds_toArray, List.set_cons_zero, List.set_cons_succ, i64_w, i32_w]
  rfl
 refine pure_ (i := 4) (N := some 9) (v := ?_) (a' := ?_) #[true, false, true, false, true, false, false, false, false, false, false, false] rfl rfl (any_of HT_.out (by kernel_rfl)) (fun _ _ _ h => h) (Or.inl ⟨by rfl, ?_⟩) ?_ ?_
 rotate_left
 ·intro w'
  go_simp
  with_reducible rfl
 rotate_left
 ·simp only [Act.put, List.setIfInBounds_toArray, List.set_cons_zero, List.set_cons_succ, i64_w, i32_w]
  rfl
 refine take_ (i := 1) (N := some 6) (v := ?_) (a' := ?_) #[true, true, true, false, true, false, false, false, false, false, false, false] rfl rfl (take_ofW HT_.out HW_.out (by kernel_rfl)) (fun _ _ _ h => h) (Or.inl ⟨by rfl, ?_⟩) hHeld ?_ ?_
 rotate_left
 ·rintro w' ⟨s0, s1, s2⟩
  go_simp
  with_reducible rfl
 rotate_left
 ·simp only [Act.put, List.setIfInBounds_toArray, List.set_cons_zero, List.set_cons_succ, i64_w, i32_w]
  rfl
 refine take_ (i := 3) (N := some 8) (v := ?_) (a' := ?_) #[true, true, true, true, true, false, false, false, false, false, false, false] rfl rfl (take_ofW HT_.out HW_.out (by kernel_rfl)) (fun _ _ _ h => h) (Or.inl ⟨by rfl, ?_⟩) hHeld ?_ ?_
 rotate_left
 ·rintro w' ⟨s0, s1, s2⟩
  go_simp
  with_reducible rfl
 rotate_left
 ·simp only [Act.put, List.setIfInBounds_toArray, List.set_cons_zero, List.set_cons_succ, i64_w, i32_w]
  rfl
 refine take_ (i := 5) (N := some 10) (v := ?_) (a' := ?_) #[true, true, true, true, true, true, false, false, false, false, false, false] rfl rfl (take_ofW HT_.out HW_.out (by kernel_rfl)) (fun _ _ _ h => h) (Or.inl ⟨by rfl, ?_⟩) hHeld ?_ ?_
 rotate_left
 ·rintro w' ⟨s0, s1, s2⟩
  go_simp
  with_reducible rfl
 rotate_left
 ·simp only [Act.put, List.setIfInBounds_toArray, List.set_cons_zero, List.set_cons_succ, i64_w, i32_w]
  rfl
 refine pure_ (i := 6) (N := some 11) (v := ?_) (a' := ?_) #[true, true, true, true, true, true, true, false, false, false, false, false] rfl rfl (any_of HT_.out (by kernel_rfl)) (fun _ _ _ h => h) (Or.inl ⟨by rfl, ?_⟩) ?_ ?_
 rotate_left
 ·intro w'
  go_simp
  with_reducible rfl
 rotate_left
 ·simp only [Act.put, List.setIfInBounds_toArray, List.set_cons_zero, List.set_cons_succ, i64_w, i32_w]
  rfl
 refine pure_ (i := 7) (N := some 12) (v := ?_) (a' := ?_) #[true, true, true, true, true, true, true, true, false, false, false, false] rfl rfl (any_of HT_.out (by kernel_rfl)) (fun _ _ _ h => h) (Or.inl ⟨by rfl, ?_⟩) ?_ ?_
 rotate_left
 ·intro w'
  go_simp
  with_reducible rfl
 rotate_left
 ·simp only [Act.put, List.setIfInBounds_toArray, List.set_cons_zero, List.set_cons_succ, i64_w, i32_w]
  rfl
 refine pure_ (i := 8) (N := some 13) (v := ?_) (a' := ?_) #[true, true, true, true, true, true, true, true, true, false, false, false] rfl rfl (any_of HT_.out (by kernel_rfl)) (fun _ _ _ h => h) (Or.inl ⟨by rfl, ?_⟩) ?_ ?_
 rotate_left
 ·intro w'
  go_simp
  with_reducible rfl
 rotate_left
 ·simp only [Act.put, List.setIfInBounds_toArray, List.set_cons_zero, List.set_cons_succ, i64_w, i32_w]
  rfl
 refine pure_ (i := 9) (N := some 14) (v := ?_) (a' := ?_) #[true, true, true, true, true, true, true, true, true, true, false, false] rfl rfl (any_of HT_.out (by kernel_rfl)) (fun _ _ _ h => h) (Or.inl ⟨by rfl, ?_⟩) ?_ ?_
 rotate_left
 ·intro w'
  go_simp
  with_reducible rfl
 rotate_left
 ·simp only [Act.put, List.setIfInBounds_toArray, List.set_cons_zero, List.set_cons_succ, i64_w, i32_w]
  rfl
 refine one_ (i := 10) (N := some 3) #[true, true, true, true, true, true, true, true, true, true, true, false] rfl rfl (one_of HT_.out (by kernel_rfl)) (by decide) (fun K hK => ?_)
 refine box_step ?hg (N := 3) ?hd (cs := #[.bool false, .slice none 0 0, .string (⟨#[]⟩ : ByteArray)]) (t := 55) ?hr ?_; (case hd => rfl); (case hg => rfl); (case hr => first | (go_simp; done) | (go_simp; rfl))
 intro gb548 hg w12 hbox hb
 have n0_ := Aside0.mk (blk_below (g := gb546) (o := .cells #[.bool a0_0, .slice A0_1 l0_1.length c0_1, .string a0_2] 55 (0, 0)) (by (with_reducible repeat (first | refine blk_drewN ?_ _ | refine blk_drew ?_ | refine blk_alloc ?_ _)); exact BK546.out) hb)
 have n1_ := Aside0.mk (blk_below (g := gb547) (o := .cells #[.bool false, .slice none 0 0, .string (⟨#[]⟩ : ByteArray)] 55 (0, 0)) (by (with_reducible repeat (first | refine blk_drewN ?_ _ | refine blk_drew ?_ | refine blk_alloc ?_ _)); exact BK547.out) hb)
 have n2_ := Aside0.mk (below_step (by repeat (first | (with_reducible first | exact HB.out | apply below_alloc | apply pw_below_drewN | apply below_drew1 | refine below_set ?_ GE546.out | refine below_set ?_ GE547.out) | exact HB.out)) hb)
 have n3_ := Aside0.mk (hbox)
 have n4_ := Aside0.mk ((by rw [hg]; exact (below_size (by repeat (first | (with_reducible first | exact HB.out | apply below_alloc | apply pw_below_drewN | apply below_drew1 | refine below_set ?_ GE546.out | refine below_set ?_ GE547.out) | exact HB.out))) : w.heap.size ≤ gb548))
 have n5_ := Aside0.mk ((by rw [hg]; exact (below_size (by repeat (first | (with_reducible first | exact HB.out | apply below_alloc | apply pw_below_drewN | apply below_drew1 | refine below_set ?_ GE546.out | refine below_set ?_ GE547.out) | exact HB.out))) : w.heap.size ≤ gb548))
 have n6_ := Aside0.mk ((by rw [hg]; exact Nat.ne_of_lt (blk_lt (g := gb546) (o := .cells #[.bool a0_0, .slice A0_1 l0_1.length c0_1, .string a0_2] 55 (0, 0)) (by (with_reducible repeat (first | refine blk_drewN ?_ _ | refine blk_drew ?_ | refine blk_alloc ?_ _)); exact BK546.out)) : gb546 ≠ gb548))
 have n7_ := Aside0.mk ((by rw [hg]; exact Nat.ne_of_gt (blk_lt (g := gb546) (o := .cells #[.bool a0_0, .slice A0_1 l0_1.length c0_1, .string a0_2] 55 (0, 0)) (by (with_reducible repeat (first | refine blk_drewN ?_ _ | refine blk_drew ?_ | refine blk_alloc ?_ _)); exact BK546.out)) : gb548 ≠ gb546))
 have n8_ := Aside0.mk ((by rw [hg]; exact Nat.ne_of_lt (blk_lt (g := gb547) (o := .cells #[.bool false, .slice none 0 0, .string (⟨#[]⟩ : ByteArray)] 55 (0, 0)) (by (with_reducible repeat (first | refine blk_drewN ?_ _ | refine blk_drew ?_ | refine blk_alloc ?_ _)); exact BK547.out)) : gb547 ≠ gb548))
 have n9_ := Aside0.mk ((by rw [hg]; exact Nat.ne_of_gt (blk_lt (g := gb547) (o := .cells #[.bool false, .slice none 0 0, .string (⟨#[]⟩ : ByteArray)] 55 (0, 0)) (by (with_reducible repeat (first | refine blk_drewN ?_ _ | refine blk_drew ?_ | refine blk_alloc ?_ _)); exact BK547.out)) : gb548 ≠ gb547))
 clear BK546
 clear BK547
 clear HB
 have BK546 := n0_
 have BK547 := n1_
 have HB := n2_
 have BK548 := n3_
 have GW548 := n4_
 have GE548 := n5_
 have NB546_548 := n6_
 have NB548_546 := n7_
 have NB547_548 := n8_
 have NB548_547 := n9_
 clear n0_ n1_ n2_ n3_ n4_ n5_ n6_ n7_ n8_ n9_
 clear hb hbox hg
 refine hK.out _ _ ⟨(blk_cell BK546.out 0).trans rfl, (blk_cell BK546.out 1).trans rfl, (blk_cell BK546.out 2).trans rfl⟩ (fun hHeld => ?_)
 clear hK K
 refine norm_ (a' := ?_) ?_ ?_
 rotate_left
 ·show Act.put _ (some 3) _ = _
  simp only [Act.put, List.setIfInBounds_toArray, List.set_cons_zero, List.set_cons_succ, i64_w, i32_w]
  rfl
 refine one_ (i := 11) (N := none) #[true, true, true, true, true, true, true, true, true, true, true, true] rfl rfl (one_of HT_.out (by kernel_rfl)) (by decide) (fun K hK => ?_)
 have hs13 : w12.cell? ⟨gb548, 0, none⟩ = some (.bool false) := (blk_cell BK548.out 0).trans rfl
 have hfs13 := blk_frozen BK548.out 0
 have hns13_0 := NB546_548.out
 have hns13_1 := NB547_548.out
 have hms13_0 := NB548_546.out
 have hms13_1 := NB548_547.out
 have hs14 : w12.cell? ⟨gb548, 1, none⟩ = some (.slice none 0 0) := (blk_cell BK548.out 1).trans rfl
 have hfs14 := blk_frozen BK548.out 1
 have hns14_0 := NB546_548.out
 have hns14_1 := NB547_548.out
 have hms14_0 := NB548_546.out
 have hms14_1 := NB548_547.out
 have hs15 : w12.cell? ⟨gb548, 2, none⟩ = some (.string (⟨#[]⟩ : ByteArray)) := (blk_cell BK548.out 2).trans rfl
 have hfs15 := blk_frozen BK548.out 2
 have hns15_0 := NB546_548.out
 have hns15_1 := NB547_548.out
 have hms15_0 := NB548_546.out
 have hms15_1 := NB548_547.out
 refine skip_ (w1 := ?_) (by rfl) rfl ?_ ?_
 rotate_left
 ·go_simp
  rfl
 refine hK.out _ _ ⟨((cell_far (p := ⟨gb548, _, none⟩) NB546_548.out _).trans (((cell_far (p := ⟨gb548, _, none⟩) NB546_548.out _).trans (((cell_far (p := ⟨gb548, _, none⟩) NB546_548.out _).trans (hHeld.1)))))), ((cell_far (p := ⟨gb548, _, none⟩) NB546_548.out _).trans (((cell_far (p := ⟨gb548, _, none⟩) NB546_548.out _).trans (((cell_far (p := ⟨gb548, _, none⟩) NB546_548.out _).trans (hHeld.2.1)))))), ((cell_far (p := ⟨gb548, _, none⟩) NB546_548.out _).trans (((cell_far (p := ⟨gb548, _, none⟩) NB546_548.out _).trans (((cell_far (p := ⟨gb548, _, none⟩) NB546_548.out _).trans (hHeld.2.2))))))⟩ (fun hHeld => ?_)
 clear hK K
 refine done_ (done_of HT_.out (by kernel_rfl)) ?_
 have n0_ : Aside0 ((((w12.setCell ⟨gb548, 0, none⟩ (.bool a0_0)).setCell ⟨gb548, 1, none⟩ (.slice none 0 0)).setCell ⟨gb548, 2, none⟩ (.string (a0_2.extract 0 ((ji2) : Int).toNat))).heap[gb546]? = some (.cells #[.bool a0_0, .slice A0_1 l0_1.length c0_1, .string a0_2] 55 (0, 0))) := ⟨by (with_reducible repeat (first | refine blk_drewN ?_ _ | refine blk_drew ?_ | refine blk_alloc ?_ _)); refine blk_far ?_ NB546_548.out _; (with_reducible repeat (first | refine blk_drewN ?_ _ | refine blk_drew ?_ | refine blk_alloc ?_ _)); refine blk_far ?_ NB546_548.out _; (with_reducible repeat (first | refine blk_drewN ?_ _ | refine blk_drew ?_ | refine blk_alloc ?_ _)); refine blk_far ?_ NB546_548.out _; (with_reducible repeat (first | refine blk_drewN ?_ _ | refine blk_drew ?_ | refine blk_alloc ?_ _)); exact BK546.out⟩
 have n1_ : Aside0 ((((w12.setCell ⟨gb548, 0, none⟩ (.bool a0_0)).setCell ⟨gb548, 1, none⟩ (.slice none 0 0)).setCell ⟨gb548, 2, none⟩ (.string (a0_2.extract 0 ((ji2) : Int).toNat))).heap[gb547]? = some (.cells #[.bool false, .slice none 0 0, .string (⟨#[]⟩ : ByteArray)] 55 (0, 0))) := ⟨by (with_reducible repeat (first | refine blk_drewN ?_ _ | refine blk_drew ?_ | refine blk_alloc ?_ _)); refine blk_far ?_ NB547_548.out _; (with_reducible repeat (first | refine blk_drewN ?_ _ | refine blk_drew ?_ | refine blk_alloc ?_ _)); refine blk_far ?_ NB547_548.out _; (with_reducible repeat (first | refine blk_drewN ?_ _ | refine blk_drew ?_ | refine blk_alloc ?_ _)); refine blk_far ?_ NB547_548.out _; (with_reducible repeat (first | refine blk_drewN ?_ _ | refine blk_drew ?_ | refine blk_alloc ?_ _)); exact BK547.out⟩
 have n2_ : Aside0 ((((w12.setCell ⟨gb548, 0, none⟩ (.bool a0_0)).setCell ⟨gb548, 1, none⟩ (.slice none 0 0)).setCell ⟨gb548, 2, none⟩ (.string (a0_2.extract 0 ((ji2) : Int).toNat))).heap[gb548]? = some (.cells #[.bool a0_0, .slice none 0 0, .string (a0_2.extract 0 ((ji2) : Int).toNat)] 55 (0, 0))) := ⟨by (with_reducible repeat (first | refine blk_drewN ?_ _ | refine blk_drew ?_ | refine blk_alloc ?_ _)); refine blk_put (cs := #[.bool a0_0, .slice none 0 0, .string (⟨#[]⟩ : ByteArray)]) ?_ 2 _ rfl; (with_reducible repeat (first | refine blk_drewN ?_ _ | refine blk_drew ?_ | refine blk_alloc ?_ _)); refine blk_put (cs := #[.bool a0_0, .slice none 0 0, .string (⟨#[]⟩ : ByteArray)]) ?_ 1 _ rfl; (with_reducible repeat (first | refine blk_drewN ?_ _ | refine blk_drew ?_ | refine blk_alloc ?_ _)); refine blk_put (cs := #[.bool false, .slice none 0 0, .string (⟨#[]⟩ : ByteArray)]) ?_ 0 _ rfl; (with_reducible repeat (first | refine blk_drewN ?_ _ | refine blk_drew ?_ | refine blk_alloc ?_ _)); exact BK548.out⟩
 have n3_ : Aside0 (Below w.heap.size w (((w12.setCell ⟨gb548, 0, none⟩ (.bool a0_0)).setCell ⟨gb548, 1, none⟩ (.slice none 0 0)).setCell ⟨gb548, 2, none⟩ (.string (a0_2.extract 0 ((ji2) : Int).toNat)))) := ⟨by repeat (first | (with_reducible first | exact HB.out | apply below_alloc | apply pw_below_drewN | apply below_drew1 | refine below_set ?_ GE546.out | refine below_set ?_ GE547.out | refine below_set ?_ GE548.out) | exact HB.out)⟩
 (try clear BK546)
 (try clear BK547)
 (try clear BK548)
 (try clear HB)
 generalize (((w12.setCell ⟨gb548, 0, none⟩ (.bool a0_0)).setCell ⟨gb548, 1, none⟩ (.slice none 0 0)).setCell ⟨gb548, 2, none⟩ (.string (a0_2.extract 0 ((ji2) : Int).toNat))) = w16 at n0_ n1_ n2_ n3_ ⊢
 have BK546 := n0_
 have BK547 := n1_
 have BK548 := n2_
 have HB := n3_
 clear n0_ n1_ n2_ n3_
 have hnb17 := NB548_546.out
 have hnc17 := NB546_548.out
 have hnb18 := NB548_547.out
 have hnc18 := NB547_548.out
 have hcz19_0 : w16.cell? ⟨gb548, 0, none⟩ = some (.bool a0_0) := (blk_cell BK548.out 0).trans rfl
 have hcz19_1 : w16.cell? ⟨gb548, 1, none⟩ = some (.slice none 0 0) := (blk_cell BK548.out 1).trans rfl
 have hcz19_2 : w16.cell? ⟨gb548, 2, none⟩ = some (.string (a0_2.extract 0 ((ji2) : Int).toNat)) := (blk_cell BK548.out 2).trans rfl
 have hfz19_0 := blk_frozen BK548.out 0
 have hfz19_1 := blk_frozen BK548.out 1
 have hfz19_2 := blk_frozen BK548.out 2
 have hnb20 := NB546_547.out
 have hnc20 := NB547_546.out
 have hcz21_0 : w16.cell? ⟨gb546, 0, none⟩ = some (.bool a0_0) := (blk_cell BK546.out 0).trans rfl
 have hcz21_1 : w16.cell? ⟨gb546, 1, none⟩ = some (.slice A0_1 l0_1.length c0_1) := (blk_cell BK546.out 1).trans rfl
 have hcz21_2 : w16.cell? ⟨gb546, 2, none⟩ = some (.string a0_2) := (blk_cell BK546.out 2).trans rfl
 have hfz21_0 := blk_frozen BK546.out 0
 have hfz21_1 := blk_frozen BK546.out 1
 have hfz21_2 := blk_frozen BK546.out 2
 have q22 : ((ji5) : Int) ≤ ((l0_1.length : Int) : Int) := of_decide_eq_true (by first | (with_reducible assumption) | assumption)
 obtain ⟨i022, hi022, _, hsz22, _⟩ := info_parts info23
 have hroom22 : l0_1.length ≤ c0_1 := HC0_1.out
 have hC22 : Kd.C k23 _ A0_1 l0_1.length l0_1 := HR0_1.out
 have hcut22 := cut_to (P := Try.prog) 48 23 .i64 Try.underlying48 hi022 A0_1 l0_1.length c0_1 (ji5) (of_decide_eq_true (by first | (with_reducible assumption) | assumption)) q22 hroom22
 have hr22 := Kd.C_take (m := ((ji5) : Int).toNat) hC22 (by omega)
 have hy22 : y549.length = ((ji5) : Int).toNat := (by rw [Ny549.out, List.length_take]; omega)
 rw [← Ny549.out] at hr22
 rw [← hy22] at hcut22
 have HR552 := Aside0.mk hr22
 have HC552 := Aside0.mk (show y549.length ≤ c0_1 from by omega)
 clear hr22 hC22 hroom22 hi022 hsz22
 have KY22 := Aside0.mk hy22
 clear hy22
 replace q22 := eq_true q22
 try go_wp2_with (first | ((with_reducible refine gate_builtin (b := .append) (xs := #[.tmp 17, .tmp 24]) rfl ?_); at_builtin; refine Kd.R_append_rows k23 (w0 := w) w.heap.size rfl (.tmp 17) (.tmp 24) 48 23 (.agg #[(.int .i64 0), (.int .i64 0)]) 16 rfl Try.underlying48 info23 rfl (by decide) (by omega) (.slice none 0 0) ([] : List (S23)) y549 _ _ _ (fun _ => True) (fun _ => False) rfl rfl ?aO ?aR (fun _ _ h => h) (fun _ h => h.elim) ?aF ?aB ?aS ?aL ?_; (case aR => repeat (first | exact (Kd.C_below HR552.out HB.out) | (with_reducible refine Kd.C_alloc ?_ _) | (with_reducible refine Kd.C_drewN ?_ _) | (with_reducible refine Kd.C_drew ?_))); (case aB => exact (by repeat (first | (with_reducible first | exact HB.out | apply below_alloc | apply pw_below_drewN | apply below_drew1 | refine below_set ?_ GE546.out | refine below_set ?_ GE547.out | refine below_set ?_ GE548.out) | exact HB.out))); (case aF => exact (fun _ _ => trivial)); (case aO => exact ((Kd.R_nil _ _ _ _ (fun _ => True)))); (case aS => exact (below_size (by repeat (first | (with_reducible first | exact HB.out | apply below_alloc | apply pw_below_drewN | apply below_drew1 | refine below_set ?_ GE546.out | refine below_set ?_ GE547.out | refine below_set ?_ GE548.out) | exact HB.out)))); (case aL => have := LMc8.out; omega); intro v554 w23 ho hb hg hat; rw [← Ny553.out] at ho; have n0_ := Aside0.mk (blk_grown (g := gb546) (o := .cells #[.bool a0_0, .slice A0_1 l0_1.length c0_1, .string a0_2] 55 (0, 0)) (by (with_reducible repeat (first | refine blk_drewN ?_ _ | refine blk_drew ?_ | refine blk_alloc ?_ _)); exact BK546.out) hg (by simp [Value.ownBlock])); have n1_ := Aside0.mk (blk_grown (g := gb547) (o := .cells #[.bool false, .slice none 0 0, .string (⟨#[]⟩ : ByteArray)] 55 (0, 0)) (by (with_reducible repeat (first | refine blk_drewN ?_ _ | refine blk_drew ?_ | refine blk_alloc ?_ _)); exact BK547.out) hg (by simp [Value.ownBlock])); have n2_ := Aside0.mk (blk_grown (g := gb548) (o := .cells #[.bool a0_0, .slice none 0 0, .string (a0_2.extract 0 ((ji2) : Int).toNat)] 55 (0, 0)) (by (with_reducible repeat (first | refine blk_drewN ?_ _ | refine blk_drew ?_ | refine blk_alloc ?_ _)); exact BK548.out) hg (by simp [Value.ownBlock])); have n3_ := Aside0.mk (hb); have n4_ := Aside0.mk (ho); clear BK546; clear BK547; clear BK548; clear HB; have BK546 := n0_; have BK547 := n1_; have BK548 := n2_; have HB := n3_; have HO555 := n4_; clear n0_ n1_ n2_ n3_ n4_; clear ho hb hg hat; obtain ⟨Ao24, co24, eo24⟩ := Kd.R_slice HO555.out; subst eo24; have hcz25_0 : w23.cell? ⟨gb548, 0, none⟩ = some (.bool a0_0) := (blk_cell BK548.out 0).trans rfl; have hcz25_1 : w23.cell? ⟨gb548, 1, none⟩ = some (.slice none 0 0) := (blk_cell BK548.out 1).trans rfl; have hcz25_2 : w23.cell? ⟨gb548, 2, none⟩ = some (.string (a0_2.extract 0 ((ji2) : Int).toNat)) := (blk_cell BK548.out 2).trans rfl; have hfz25_0 := blk_frozen BK548.out 0; have hfz25_1 := blk_frozen BK548.out 1; have hfz25_2 := blk_frozen BK548.out 2; have hcz26_0 : w23.cell? ⟨gb547, 0, none⟩ = some (.bool false) := (blk_cell BK547.out 0).trans rfl; have hcz26_1 : w23.cell? ⟨gb547, 1, none⟩ = some (.slice none 0 0) := (blk_cell BK547.out 1).trans rfl; have hcz26_2 : w23.cell? ⟨gb547, 2, none⟩ = some (.string (⟨#[]⟩ : ByteArray)) := (blk_cell BK547.out 2).trans rfl; have hfz26_0 := blk_frozen BK547.out 0; have hfz26_1 := blk_frozen BK547.out 1; have hfz26_2 := blk_frozen BK547.out 2))
 refine bodyPost_ret (results_cell_row rfl _ _ gb547 55 #[.bool a0_0, .slice Ao24 y553.length co24, .string (a0_2.extract 0 ((ji2) : Int).toNat)] (0, 0) _ rfl (by (with_reducible repeat (first | refine blk_drewN ?_ _ | refine blk_drew ?_ | refine blk_alloc ?_ _)); refine blk_put (cs := #[.bool a0_0, .slice Ao24 y553.length co24, .string (⟨#[]⟩ : ByteArray)]) ?_ 2 _ rfl; (with_reducible repeat (first | refine blk_drewN ?_ _ | refine blk_drew ?_ | refine blk_alloc ?_ _)); refine blk_put (cs := #[.bool a0_0, .slice none 0 0, .string (⟨#[]⟩ : ByteArray)]) ?_ 1 _ rfl; (with_reducible repeat (first | refine blk_drewN ?_ _ | refine blk_drew ?_ | refine blk_alloc ?_ _)); refine blk_put (cs := #[.bool false, .slice none 0 0, .string (⟨#[]⟩ : ByteArray)]) ?_ 0 _ rfl; (with_reducible repeat (first | refine blk_drewN ?_ _ | refine blk_drew ?_ | refine blk_alloc ?_ _)); refine blk_far ?_ NB547_548.out _; (with_reducible repeat (first | refine blk_drewN ?_ _ | refine blk_drew ?_ | refine blk_alloc ?_ _)); exact BK547.out) Try.underlying55 rfl (by kernel_rfl)) rfl ?_
 exact ⟨_, by first | rfl | (simp [errW_none, errW_some] <;> rfl) | (simp only [← hji2, ← hji5]; first | rfl | (simp [errW_none, errW_some] <;> rfl)) | (simp [*, errW_none, errW_some] <;> rfl), by (with_reducible repeat (first | apply Kd.R_alloc | apply Kd.R_drewN | apply Kd.R_drew)); exact Kd.R_mono (Kd.R_far (p := ⟨gb547, 2, none⟩) (Kd.R_far (p := ⟨gb547, 1, none⟩) (Kd.R_far (p := ⟨gb547, 0, none⟩) (Kd.R_far (p := ⟨gb548, 1, none⟩) (Kd.R_types (Kd.R_types HO555.out BK548.out (by decide)) BK547.out (by decide)) (fun _ hk => hk.1.2) (.slice Ao24 y553.length co24)) (fun _ hk => hk.2) (.bool a0_0)) (fun _ hk => hk.2) (.slice Ao24 y553.length co24)) (fun _ hk => hk.2) (.string (a0_2.extract 0 ((ji2) : Int).toNat))) (fun _ hk => trivial), by repeat (first | (with_reducible first | exact HB.out | apply below_alloc | apply pw_below_drewN | apply below_drew1 | refine below_set ?_ GE546.out | refine below_set ?_ GE547.out | refine below_set ?_ GE548.out) | exact HB.out)⟩
end Go.Proofs.Ytnfmeafiaipplaa.S
