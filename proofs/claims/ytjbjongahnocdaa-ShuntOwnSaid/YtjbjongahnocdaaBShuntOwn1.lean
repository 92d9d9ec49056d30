-- Written by wip/bundle.py: texts of this claim, one behind the other.
import Derived.Test.YtjbjongahnocdaaBShuntOwn0
import Derived.Deep.RegionHeldLaw
set_option linter.unusedVariables false
set_option linter.unusedSimpArgs false

namespace Go.Proofs.Ytjbjongahnocdaa.S
open Go.Proofs.Ytjbjongahnocdaa.Lib
open Go.Proofs.Ytjbjongahnocdaa.Defs
open Go.Maps (Keyed)
open Go.RowKit Go.Proofs.YtjbjongahnocdaaW.PrintWords Go.Proofs.YtjbjongahnocdaaW.PrintLast Go.Proofs.YtjbjongahnocdaaW.PrintMore
attribute [local go_sem] max2_int min2_int max_two min_two max_three min_three max_four min_four   -- for this text's walks alone
set_option linter.unusedVariables false
set_option linter.unusedSimpArgs false

/-! ### shunt_Stacks: function 48 -/
def encO (f : Int → Option Int) : Value → Option Value := encI (fun y => (f y).map (.int .i64))
theorem encO_get (f : Int → Option Int) (x : Int) : (encO f (.int .i64 x)).getD (.int .i64 0) = .int .i64 ((f x).getD 0) := by
  unfold encO encI
  cases h : f x <;> simp [h]
theorem encO_is (f : Int → Option Int) (x : Int) : (encO f (.int .i64 x)).isSome = (f x).isSome := by
  unfold encO encI
  cases h : f x <;> simp [h]
theorem encO_none {f : Int → Option Int} {x : Int} (h : f x = none) : encO f (.int .i64 x) = none := by
  unfold encO encI
  simp [h]
theorem encO_put (f : Int → Option Int) (x v : Int) : encO (put_ f x v) (.int .i64 x) = some (.int .i64 v) := by
  unfold encO encI put_
  simp
theorem encO_far (f : Int → Option Int) (x v : Int) : ∀ u, u ≠ .int .i64 x → encO (put_ f x v) u = encO f u := by
  intro u hu
  unfold encO encI put_
  split
  · rename_i y
    have : y ≠ x := fun e => hu (by rw [e])
    simp [this]
  · rfl
theorem stacks_zero (w : World) : (zeroValue 3).run Try.prog w = .ok (.int .i64 0) w := by kernel_rfl
theorem stacks_key {x : Int} (h0 : 0 ≤ x) (h1 : x ≤ 1000) : keyOf Try.prog 3 (.int .i64 x) = some (.int .i64 x) := Maps.keyOf_int_mk Try.underlying3 (wfI (by omega) (by omega))
theorem stacks_look {W : World} {b m : Nat} {f : Int → Option Int} (h : MapAt W Try.prog 3 b m (encO f)) {x : Int} (h0 : 0 ≤ x) (h1 : x ≤ 1000) : (Instr.lookup 80 (.map (some b)) (.int .i64 x) false).run Try.prog W = .ok (.int .i64 ((f x).getD 0)) W := by
  rw [h.look (Maps.int_keyed Try.underlying3) Try.underlying80 (stacks_zero _) (stacks_key h0 h1), encO_get]
theorem stacks_lookOk {W : World} {b m : Nat} {f : Int → Option Int} (h : MapAt W Try.prog 3 b m (encO f)) {x : Int} (h0 : 0 ≤ x) (h1 : x ≤ 1000) : (Instr.lookup 80 (.map (some b)) (.int .i64 x) true).run Try.prog W = .ok (.tuple #[.int .i64 ((f x).getD 0), .bool (f x).isSome]) W := by
  rw [h.lookOk (Maps.int_keyed Try.underlying3) Try.underlying80 (stacks_zero _) (stacks_key h0 h1), encO_get, encO_is]

set_option maxHeartbeats 4000000 in
set_option maxRecDepth 100000 in
theorem way_fn.calls (fr : Int → Option Int) (g gb bf mf : Nat) (a : Int) (r : List Int) (W : World) (hb : W.cell? ⟨gb, 0, none⟩ = some (.pointer (some ⟨g, 0, none⟩))) (hc : W.cell? ⟨g, 2, none⟩ = some (.map (some bf))) (hm : MapAt W Try.prog 3 bf mf (encO fr)) (h : wayF fr 100 a = some r) :
    Calls Try.prog 82 #[.int .i64 a, .pointer (some ⟨gb, 0, none⟩)] W fun e w' => ∃ v, e = .returned v ∧ Kd.R (Kd.int .i64) 3 w' W.heap.size (fun _ => True) v r ∧ Below W.heap.size W w' := by
  have HB := Aside0.mk hb
  have HC := Aside0.mk hc
  have HM := Aside0.mk hm
  have HH := Aside0.mk h
  clear hb hc hm h
  go_enter Try.func82, Try.ntmps82
  go_wp2
  go_loopg [0, 4] 100 (fun kq v0 v4 wr => ∃ (x : Int) (out : List Int), v0 = .int .i64 x ∧ Aside0 (∃ rest, wayF fr kq x = some rest ∧ out ++ rest = r) ∧ Aside0 (out.length + kq = 100) ∧ Aside0 (Kd.R (Kd.int .i64) 3 wr W.heap.size (fun _ => True) v4 out) ∧ Aside0 (Below W.heap.size W wr))
  case atStart => exact ⟨a, [], rfl, ⟨⟨r, HH.out, rfl⟩⟩, ⟨rfl⟩, ⟨Kd.R_nil _ _ _ _ _⟩, ⟨Below.refl _ _⟩⟩
  case round =>
    clear HH
    obtain ⟨x, out, rfl, HW, HL, HR, HBW⟩ := hrel
    obtain ⟨rest, hw, hrest⟩ := HW.out
    have hl := HL.out
    obtain ⟨m, hm⟩ : ∃ m, gk = m + 1 := by
      cases gk with
      | zero => cases hw
      | succ m => exact ⟨m, rfl⟩
    rw [hm] at hw
    unfold wayF at hw
    obtain ⟨A, c, hv⟩ := Kd.R_slice HR.out
    subst hv
    by_cases c1 : 0 ≤ x
    · rw [if_pos c1] at hw
      by_cases c3 : x ≤ 1000
      case neg => rw [if_neg c3] at hw; cases hw
      rw [if_pos c3] at hw
      obtain ⟨rest', hw1, hw2⟩ := Option.map_eq_some_iff.mp hw
      have c1b : decide (0 ≤ x) = true := decide_eq_true c1
      have hsz : W.heap.size ≤ wr.heap.size := HBW.out.size
      obtain ⟨v1, w1, hrun, ho, hB1, hgr, hat⟩ := append_one (Kd.int .i64) (P := Try.prog) (w0 := W) (W := wr) W.heap.size 22 22 3 (.int .i64 0) 8 Try.underlying22 info3 rfl (by decide) (by omega) (v := .slice A out.length c) (xs := out) x [.int .i64 x] (ok := fun _ => True) (fun _ => False) rfl (fun _ h => h.elim) (fun _ _ => trivial) HR.out HBW.out hsz (by omega)
      have hcb : w1.cell? ⟨gb, 0, none⟩ = some (.pointer (some ⟨g, 0, none⟩)) := (hB1.cell (World.block_lt_of_cell? W _ HB.out)).trans HB.out
      have hcc : w1.cell? ⟨g, 2, none⟩ = some (.map (some bf)) := (hB1.cell (World.block_lt_of_cell? W _ HC.out)).trans HC.out
      have hlk := stacks_look (HM.out.below hB1) c1 c3
      have HRUN := Aside0.mk hrun
      have HO := Aside0.mk ho
      have HB1 := Aside0.mk hB1
      have HW2 := Aside0.mk (show ∃ rest, wayF fr m ((fr x).getD 0) = some rest ∧ (out ++ [x]) ++ rest = r from ⟨rest', hw1, by rw [← hrest, ← hw2]; simp⟩)
      have HL2 := Aside0.mk (show (out ++ [x]).length + m = 100 by simp; omega)
      have HM1 := Aside0.mk (show m < gk by omega)
      clear hrun ho hB1 hgr hat hw hw1 hw2 hrest hm hl c1 c3 HW HR HL hsz
      go_wp2_with (at_builtin; go_must (refine wpList_appendRun _ rfl _ _ _ rfl HRUN.out rfl rfl rfl ?_))
      go_roundg m
      case measure => exact HM1.out
      case rel => exact ⟨_, out ++ [x], rfl, HW2, HL2, HO, HB1⟩
    · rw [if_neg c1] at hw
      have c1b : decide (0 ≤ x) = false := decide_eq_false c1
      obtain rfl : [] = rest := Option.some.inj hw
      rw [List.append_nil] at hrest
      subst hrest
      clear hw hm hl c1 HW HL
      go_wp2
      go_ret
      exact ⟨_, rfl, HR.out, HBW.out⟩

theorem wayF_len (fr : Int → Option Int) : ∀ (f : Nat) (x : Int) (r : List Int), wayF fr f x = some r → r.length ≤ f
  | 0, _, _, h => by cases h
  | f + 1, x, r, h => by
    unfold wayF at h
    by_cases c : 0 ≤ x
    · rw [if_pos c] at h
      by_cases c2 : x ≤ 1000
      · rw [if_pos c2] at h
        obtain ⟨r', h1, h2⟩ := Option.map_eq_some_iff.mp h
        have := wayF_len fr f _ _ h1
        rw [← h2]
        simp
        omega
      · rw [if_neg c2] at h; cases h
    · rw [if_neg c] at h
      obtain rfl := Option.some.inj h
      simp
theorem rev2 (x y : Int) (s : List Int) : rd (x :: y :: s).reverse (s.length : Int) = y ∧ (x :: y :: s).reverse.take (s.length + 1) = (y :: s).reverse := by
  constructor
  · unfold rd
    simp only [List.reverse_cons, List.append_assoc]
    rw [List.getD_eq_getElem?_getD, List.getElem?_append_right (by simp)]
    simp
  · rw [List.reverse_cons (a := x), List.take_left' (by simp)]

theorem trimR_stop {P Q : List Int} (h : ¬ ∃ x y s x' t, P = x :: y :: s ∧ Q = x' :: y :: t) : trimR P Q = (P, Q) := by
  match P, Q with
  | [], _ => unfold trimR; rfl
  | [_], _ => unfold trimR; rfl
  | _ :: _ :: _, [] => unfold trimR; rfl
  | _ :: _ :: _, [_] => unfold trimR; rfl
  | x :: y :: s, x' :: y' :: t =>
    unfold trimR
    exact if_neg (fun e => h ⟨x, y, s, x', t, rfl, by rw [e]⟩)
theorem trim_cases {P Q : List Int} (h : ¬ ∃ x y s x' t, P = x :: y :: s ∧ Q = x' :: y :: t) : P.length ≤ 1 ∨ (1 < P.length ∧ Q.length ≤ 1) ∨ ∃ x y s x' y' t, P = x :: y :: s ∧ Q = x' :: y' :: t ∧ y ≠ y' := by
  match P, Q with
  | [], _ => exact .inl (by simp)
  | [_], _ => exact .inl (by simp)
  | _ :: _ :: _, [] => exact .inr (.inl (by simp))
  | _ :: _ :: _, [_] => exact .inr (.inl (by simp))
  | x :: y :: s, x' :: y' :: t => exact .inr (.inr ⟨x, y, s, x', y', t, rfl, rfl, fun e => h ⟨x, y, s, x', t, rfl, by rw [e]⟩⟩)
set_option maxHeartbeats 4000000 in
set_option maxRecDepth 100000 in
theorem close_fn.calls (k : Nat) (fr : Int → Option Int) (wc W : World) (g bs bf mf : Nat) (a b : Int) (c : List Int) (vn vc : Value) (hg : W.heap[g]? = some (.cells #[vn, .map (some bs), .map (some bf), vc] 91 (0, 0))) (hgc : wc.heap.size ≤ g) (hBc : Below wc.heap.size wc W) (hm : MapAt W Try.prog 3 bf mf (encO fr)) (h : closeF (slices_Reverse_int_int.f k) fr a b = some c) :
    Calls Try.prog 80 #[.pointer (some ⟨g, 0, none⟩), .int .i64 a, .int .i64 b] W fun e w' => e = .returned (.tuple #[]) ∧ ∃ vc', w'.cell? ⟨g, 3, none⟩ = some vc' ∧ Kd.R (Kd.int .i64) 3 w' W.heap.size (fun _ => True) vc' c ∧ Below wc.heap.size wc w' := by
  unfold closeF at h
  replace h := Option.bind_eq_some_iff.mp h
  obtain ⟨p, hp, h⟩ := h
  replace h := Option.bind_eq_some_iff.mp h
  obtain ⟨q, hq, h⟩ := h
  replace h := Option.bind_eq_some_iff.mp h
  obtain ⟨q', hq', h⟩ := h
  obtain ⟨T, hT⟩ : ∃ T, T = trimR p.reverse q.reverse := ⟨_, rfl⟩
  rw [← hT] at hq' h
  by_cases hne : q'.length = 0
  case pos => rw [if_pos hne] at h; cases h
  rw [if_neg hne] at h
  have HRES := Aside0.mk (Option.some.inj h)
  have HNE := Aside0.mk (show 1 ≤ q'.length by omega)
  have HREV := Aside0.mk hq'
  have HT := Aside0.mk hT.symm
  have HPL := Aside0.mk (wayF_len _ _ _ _ hp)
  have HQL := Aside0.mk (wayF_len _ _ _ _ hq)
  obtain ⟨w1, hw1⟩ : ∃ w1, w1 = W.alloc (.cells #[.pointer (some ⟨g, 0, none⟩)] 88) := ⟨_, rfl⟩
  have hbw1 : Below W.heap.size W w1 := by rw [hw1]; exact below_alloc (Below.refl _ _) _
  have hgl : g < W.heap.size := by
    apply Nat.lt_of_not_le
    intro hn
    simp [hn] at hg
  have hgb : w1.heap[W.heap.size]? = some (.cells #[.pointer (some ⟨g, 0, none⟩)] 88 (0, 0)) := by rw [hw1]; exact heap_alloc_new W _
  have hg1 : w1.heap[g]? = some (.cells #[vn, .map (some bs), .map (some bf), vc] 91 (0, 0)) := (hbw1.block g hgl).trans hg
  have HWA := Aside0.mk (way_fn.calls fr g W.heap.size bf mf a p w1 ((blk_cell hgb 0).trans rfl) ((blk_cell hg1 2).trans rfl) (hm.below hbw1) hp)
  have HWB := Aside0.mk (fun (w2 : World) (h2 : Below w1.heap.size w1 w2) => way_fn.calls fr g W.heap.size bf mf b q w2 ((h2.cell (World.block_lt_of_cell? w1 ⟨W.heap.size, 0, none⟩ ((blk_cell hgb 0).trans rfl))).trans ((blk_cell hgb 0).trans rfl)) ((h2.cell (World.block_lt_of_cell? w1 ⟨g, 2, none⟩ ((blk_cell hg1 2).trans rfl))).trans ((blk_cell hg1 2).trans rfl)) ((hm.below hbw1).below h2) hq)
  have HG1 := Aside0.mk hg1
  have HGB := Aside0.mk hgb
  have HBW1 := Aside0.mk hbw1
  have HGC := Aside0.mk (show wc.heap.size ≤ g ∧ g < W.heap.size from ⟨hgc, hgl⟩)
  have HBC := Aside0.mk hBc
  have hmf : ∀ (fn : Fn) (first cap : Array Value) (w : World), (Instr.makeFunc fn first cap).run Try.prog w = .ok (.func fn first cap) w := fun _ _ _ _ => rfl
  clear h hp hq hq' hT hne hbw1 hgl hgb hg1 hg hgc hBc hm
  subst hw1
  go_enter Try.func80, Try.ntmps80
  go_wp2_with (first
    | (go_at_call 82; go_must (first
        | ((with_reducible refine HWA.out.mono ?_); rintro e w2 ⟨v2, rfl, hR2, hB2⟩; obtain ⟨A2, c2, e2⟩ := Kd.R_slice hR2; subst e2; have HR2 := Aside0.mk hR2; have HB2 := Aside0.mk hB2; clear hR2 hB2)
        | ((with_reducible refine (HWB.out _ HB2.out).mono ?_); rintro e w3 ⟨v3, rfl, hR3, hB3⟩; obtain ⟨A3, c3, e3⟩ := Kd.R_slice hR3; subst e3; have HR3 := Aside0.mk hR3; have HB3 := Aside0.mk hB3; clear hR3 hB3))))
  have HP3 := Aside0.mk (Kd.R_below (Kd.R_mono (Kd.R_bound HR2.out) (fun k hk => hk.2.2.1) : Kd.R (Kd.int .i64) 3 w2 _ (fun k => k < w2.heap.size) _ p) HB3.out)
  have HQ3 := Aside0.mk (Kd.R_mono (Kd.R_bound HR3.out) (fun k hk => hk.2.1) : Kd.R (Kd.int .i64) 3 w3 w2.heap.size (fun k => w2.heap.size ≤ k) _ q)
  clear HWA HWB HR2 HR3
  have HFU := Aside0.mk (show p.length ≤ 100 from HPL.out)
  go_loopg [7, 8] p.length (fun kq v7 v8 wr => ∃ (P Q : List Int) (Ap Aq : Option Addr) (cp cq : Nat), v7 = .slice Ap P.length cp ∧ v8 = .slice Aq Q.length cq ∧ Aside0 (kq = P.length ∧ P.length ≤ 100) ∧ Aside0 (trimR P Q = T) ∧ Aside0 (Q.length ≤ 100) ∧ Aside0 (Kd.R (Kd.int .i64) 3 w3 (W.alloc (.cells #[.pointer (some ⟨g, 0, none⟩)] 88)).heap.size (fun k => k < w2.heap.size) (.slice Ap P.length cp) P.reverse) ∧ Aside0 (Kd.R (Kd.int .i64) 3 w3 w2.heap.size (fun k => w2.heap.size ≤ k) (.slice Aq Q.length cq) Q.reverse) ∧ Drawn0 w3 wr)
  case atStart => exact ⟨p.reverse, q.reverse, A2, A3, c2, c3, by rw [List.length_reverse], by rw [List.length_reverse], ⟨⟨by rw [List.length_reverse], by rw [List.length_reverse]; exact HFU.out⟩⟩, HT, ⟨by rw [List.length_reverse]; exact HQL.out⟩, ⟨by rw [List.length_reverse, List.reverse_reverse]; exact HP3.out⟩, ⟨by rw [List.length_reverse, List.reverse_reverse]; exact HQ3.out⟩, by repeat (first | exact Drawn0.refl _ | apply Drawn0.step)⟩
  case round =>
    clear HT HP3 HQ3 HPL HQL
    obtain ⟨P, Q, Ap, Aq, cp, cq, rfl, rfl, HK, HT, HQL, HP, HQ, ⟨nd, rfl⟩⟩ := hrel
    by_cases ct : ∃ x y s x' t, P = x :: y :: s ∧ Q = x' :: y :: t
    · obtain ⟨x, y, s, x', tt, rfl, rfl⟩ := ct
      have hT2 : trimR (y :: s) (y :: tt) = T := by
        have := HT.out
        rw [show trimR (x :: y :: s) (x' :: y :: tt) = if y = y then trimR (y :: s) (y :: tt) else (x :: y :: s, x' :: y :: tt) from rfl, if_pos rfl] at this
        exact this
      have hk := HK.out.1
      have HPB := Aside0.mk HK.out.2
      have hql := HQL.out
      have hkp := (Kd.R_reads' HP.out)
      have hkq := (Kd.R_reads' HQ.out)
      obtain ⟨np, hnp⟩ : ∃ np : Nat, np = (x :: y :: s).length := ⟨_, rfl⟩
      obtain ⟨nq, hnq⟩ : ∃ nq : Nat, nq = (x' :: y :: tt).length := ⟨_, rfl⟩
      have hnp2 : np = s.length + 2 := by rw [hnp]; rfl
      have hnq2 : nq = tt.length + 2 := by rw [hnq]; rfl
      have hmp : (np : Int) ≤ 9223372036854775807 := by have := hkp.2.2.2.1; simp at this; omega
      obtain ⟨jp, hjp⟩ : ∃ jp : Int, jp = (s.length : Int) := ⟨_, rfl⟩
      obtain ⟨jq, hjq⟩ : ∃ jq : Int, jq = (tt.length : Int) := ⟨_, rfl⟩
      obtain ⟨kp, hkp1⟩ : ∃ kp : Int, kp = (s.length : Int) + 1 := ⟨_, rfl⟩
      obtain ⟨kq, hkq1⟩ : ∃ kq : Int, kq = (tt.length : Int) + 1 := ⟨_, rfl⟩
      obtain ⟨adp, eap, hxp⟩ := Kd.at_int hkp.2.2 jp (by omega) (by simp; omega)
      obtain ⟨adq, eaq, hxq⟩ := Kd.at_int hkq.2.2 jq (by omega) (by simp; omega)
      subst eap
      subst eaq
      rw [hjp, (rev2 x y s).1, ← hjp] at hxp
      rw [hjq, (rev2 x' y tt).1, ← hjq] at hxq
      have hP2 := Kd.R_take (m := s.length + 1) HP.out (by simp)
      have hQ2 := Kd.R_take (m := tt.length + 1) HQ.out (by simp)
      rw [(rev2 x y s).2] at hP2
      rw [(rev2 x' y tt).2] at hQ2
      have hcp : np ≤ cp := by have := hkp.2.1; omega
      have hcq : nq ≤ cq := by have := hkq.2.1; omega
      obtain ⟨i0, hi0, _, _, _⟩ := info_parts info3
      have hcutp := cut_to (P := Try.prog) 22 3 .i64 Try.underlying22 hi0 (some adp) np cp kp (by omega) (by omega) hcp
      have hcutq := cut_to (P := Try.prog) 22 3 .i64 Try.underlying22 hi0 (some adq) nq cq kq (by omega) (by omega) hcq
      have hwp : IntKind.i64.wrap ((np : Int) - 2) = jp := by rw [IntWalk.i64_in _ (by omega)]; omega
      have hwq : IntKind.i64.wrap ((nq : Int) - 2) = jq := by rw [IntWalk.i64_in _ (by omega)]; omega
      have hwp1 : IntKind.i64.wrap ((np : Int) - 1) = kp := by rw [IntWalk.i64_in _ (by omega)]; omega
      have hwq1 : IntKind.i64.wrap ((nq : Int) - 1) = kq := by rw [IntWalk.i64_in _ (by omega)]; omega
      have g1 : decide (1 < np) = true := decide_eq_true (by omega)
      have g2 : decide ((1 : Int) < (np : Int)) = true := decide_eq_true (by omega)
      have g3 : decide (1 < nq) = true := decide_eq_true (by omega)
      have g4 : decide ((1 : Int) < (nq : Int)) = true := decide_eq_true (by omega)
      have pj := eq_true (show 0 ≤ jp by omega)
      have qj := eq_true (show jp < (np : Int) by omega)
      have pj2 := eq_true (show 0 ≤ jq by omega)
      have qj2 := eq_true (show jq < (nq : Int) by omega)
      have hyy : (y == y) = true := beq_self_eq_true y
      have HE := Aside0.mk (show kp.toNat = (y :: s).length ∧ kq.toNat = (y :: tt).length by simp; omega)
      have HP2 := Aside0.mk hP2
      have HQ2 := Aside0.mk hQ2
      have HT2 := Aside0.mk hT2
      have HQL2 := Aside0.mk (show (y :: tt).length ≤ 100 by simp at hql ⊢; omega)
      have HM := Aside0.mk (show (y :: s).length < gk by rw [hk]; simp)
      rw [← hnp, ← hnq]
      clear hT2 hk hql hkp hkq hnp hnq hnp2 hnq2 hjp hjq hkp1 hkq1 hP2 hQ2 hcp hcq hi0 HT HQL HP HQ HK hmp
      go_wp2
      repeat (go_quiet (fail); try go_wp2)
      go_roundg ((y :: s).length)
      case measure => exact HM.out
      case rel => exact ⟨y :: s, y :: tt, _, _, _, _, by rw [HE.out.1], by rw [HE.out.2], ⟨⟨rfl, by have := HM.out; have := HPB.out; simp at *; omega⟩⟩, HT2, HQL2, HP2, HQ2, by repeat (first | exact Drawn0.refl _ | apply Drawn0.step)⟩
    · have hTT : T = (P, Q) := by rw [← HT.out]; exact trimR_stop ct
      subst hTT
      clear HT
      have HKL := Aside0.mk HK.out.2
      have hkp := (Kd.R_reads' HP.out)
      have hkq := (Kd.R_reads' HQ.out)
      rcases trim_cases ct with hs | ⟨hs1, hs2⟩ | ⟨x, y, s, x', y', tt, rfl, rfl, hyy⟩
      · obtain ⟨np, hnp⟩ : ∃ np : Nat, np = P.length := ⟨_, rfl⟩
        have g1 : decide (1 < P.length) = false := decide_eq_false (by omega)
        have g2 : decide ((1 : Int) < (P.length : Int)) = false := decide_eq_false (by omega)
        clear hs hkp hkq hnp
        have HRV := Aside0.mk (fun n => slices_Reverse_int_int.calls k (fun k => w2.heap.size ≤ k) (.slice Aq Q.length cq) Q.reverse q' w2 (w3.drewN n) (pw_below_drewN HB3.out n) (Kd.R_drewN HQ.out n) HREV.out)
        go_wp2
        repeat (go_quiet (fail); try (go_wp2_with (go_at_call 68; go_must ((with_reducible refine (HRV.out _).mono ?_); rintro e w4 ⟨rfl, hR4, hB4, hK4⟩; have HR4 := Aside0.mk hR4; have HB4 := Aside0.mk hB4; have HP4 := Aside0.mk (Kd.R_step (Kd.R_drewN HP.out _) (fun k hk hl => hK4.2 k hl (Nat.not_le.mpr hk))); clear hR4 hB4 hK4))))
        have hlen4 : Q.length = q'.length := (Kd.R_reads' HR4.out).1
        have hn1 := HNE.out
        have hql := HQL.out
        have hkl := HKL.out
        obtain ⟨adq, eaq, _⟩ := Kd.at_int (Kd.R_reads' HR4.out).2.2 0 (by omega) (by omega)
        subst eaq
        obtain ⟨i0, hi0, _, hsz0, _⟩ := info_parts info3
        have hcf := cut_from (P := Try.prog) 22 3 .i64 Try.underlying22 hi0 1 hsz0 (some adq) Q.length cq 1 (by omega) (by omega)
        have hr5 := Kd.C_drop (m := 1) (Kd.R_reads' HR4.out).2.2 (by omega) (by have := (Kd.R_reads' HR4.out).2.1; omega : q'.length ≤ cq)
        have hs1 : (Kd.int .i64).sz = 1 := rfl
        rw [hs1] at hr5
        rw [show (1 : Int).toNat = 1 from rfl] at hcf
        obtain ⟨A5, hA5⟩ : ∃ A5, (if cq = 1 then (some adq : Option Addr) else (some adq : Option Addr).map (·.add (1 * 1))) = A5 := ⟨_, rfl⟩
        rw [hA5] at hcf hr5
        have hl5 : (q'.drop 1).length = Q.length - 1 := by rw [List.length_drop]; omega
        rw [← hl5] at hcf
        obtain ⟨D, hD⟩ : ∃ D, q'.drop 1 = D := ⟨_, rfl⟩
        rw [hD] at hcf hr5 hl5
        have HC5 := Aside0.mk hr5
        have hBW4 : Below W.heap.size W w4 := below_then (below_step HBW1.out HB2.out) (below_step HBW1.out HB2.out).size HB4.out
        have HBW4 := Aside0.mk hBW4
        have hg4 : w4.heap[g]? = some (.cells #[vn, .map (some bs), .map (some bf), vc] 91 (0, 0)) := (hBW4.block g HGC.out.2).trans (((HBW1.out.block g HGC.out.2).symm).trans HG1.out)
        have hgbb : w4.heap[W.heap.size]? = some (.cells #[.pointer (some ⟨g, 0, none⟩)] 88 (0, 0)) := ((below_then HB2.out HB2.out.size HB4.out).block W.heap.size (by simp)).trans HGB.out
        have hgb4 : w4.cell? ⟨W.heap.size, 0, none⟩ = some (.pointer (some ⟨g, 0, none⟩)) := (blk_cell hgbb 0).trans rfl
        have HGBB := Aside0.mk hgbb
        have hne5 : some W.heap.size ≠ (Value.slice Ap P.length cp).ownBlock := Kd.R_ne HP4.out hgbb (by decide)
        have HNE5 := Aside0.mk hne5
        have HG4 := Aside0.mk hg4
        have hgne : g ≠ W.heap.size := by have := HGC.out.2; omega
        have HKP := Aside0.mk (fun (W' : World) (hW' : Below w4.heap.size w4 W') => (hW'.cell (World.block_lt_of_cell? w4 _ hgb4)).trans hgb4)
        have HPL2 := Aside0.mk (show (P.reverse.length + D.length) * 8 ≤ 140737488355328 by rw [List.length_reverse]; omega)
        have HFIN := Aside0.mk (show P.reverse ++ D = c by rw [← hD]; exact HRES.out)
        have hne4 : some g ≠ (Value.slice Ap P.length cp).ownBlock := Kd.R_ne HP4.out hg4 (by decide)
        have HNE4 := Aside0.mk hne4
        clear hr5 hi0 hsz0 hA5 hl5 hlen4 hn1 hql hBW4 hg4 hgb4 hne4 hs1 hkl HRV hD hgbb hne5
        go_region_held_law (fun W' => W'.cell? ⟨W.heap.size, 0, none⟩ = some (.pointer (some ⟨g, 0, none⟩)))
          ((first | assumption | (rw [World.cell?_setCell_far _ _ _ _ hgne]; assumption) | exact HKP.out _ (by repeat (first | exact Below.refl _ _ | apply pw_below_drewN | apply below_drew1))))
          ((refine Kd.R_append_rows_step (Kd.int .i64) (w0 := W) W.heap.size rfl _ _ 22 3 (.int .i64 0) 8 rfl Try.underlying22 info3 rfl (by decide) (by omega) (.slice Ap P.length cp) P.reverse D _ _ _ (fun _ => True) (fun _ => False) rfl rfl (Kd.R_lower (Kd.R_mono (Kd.R_drew HP4.out) (fun _ _ => trivial)) (by simp)) (Kd.C_drew HC5.out) (fun _ _ h => h) (fun _ h => h.elim) (fun _ _ => trivial) (by repeat (first | exact HBW4.out | apply pw_below_drewN | apply below_drew1)) (show W.heap.size ≤ w4.heap.size from HBW4.out.size) HPL2.out ?_; intro v5 w5 hR5 hB5 hg5 _; obtain ⟨A6, c6, e6⟩ := Kd.R_slice hR5; subst e6; (rw [show (P.reverse ++ D).length = P.length + D.length by simp] at hR5); have hb5 : w5.heap[g]? = some (.cells #[vn, .map (some bs), .map (some bf), vc] 91 (0, 0)) := blk_grown (show w4.drew.heap[g]? = _ from HG4.out) hg5 HNE4.out; have hc5 : w5.cell? ⟨g, 3, none⟩ = some vc := (blk_cell hb5 3).trans rfl; have hf5 : w5.frozen? ⟨g, 3, none⟩ = false := blk_frozen hb5 3; have hS5 : w5.cell? ⟨W.heap.size, 0, none⟩ = some (.pointer (some ⟨g, 0, none⟩)) := (blk_cell (blk_grown (show w4.drew.heap[W.heap.size]? = _ from HGBB.out) hg5 HNE5.out) 0).trans rfl; have HR5 := Aside0.mk hR5; have HB5 := Aside0.mk hB5; have HG5 := Aside0.mk hb5; clear hR5 hB5 hg5 hb5; (try simp only [Act.put, List.getElem_toArray, List.getElem_cons_succ, List.getElem_cons_zero, List.setIfInBounds_toArray, List.set_cons_zero, List.set_cons_succ])))
        all_goals (
          go_wp2
          go_end0
          exact ⟨rfl, .slice A6 (P.length + D.length) c6, (blk_cell (blk_put HG5.out 3 _ rfl) 3).trans rfl, by rw [← HFIN.out]; exact Kd.R_set HR5.out HG5.out (by simp [Kd.int, Kd.scalar]) 3 _, Below.setCell (below_then HBC.out HBC.out.size HB5.out) (p := ⟨g, 3, none⟩) HGC.out.1 _⟩)
      · have g1 : decide (1 < P.length) = true := decide_eq_true (by omega)
        have g2 : decide ((1 : Int) < (P.length : Int)) = true := decide_eq_true (by omega)
        have g3 : decide (1 < Q.length) = false := decide_eq_false (by omega)
        have g4 : decide ((1 : Int) < (Q.length : Int)) = false := decide_eq_false (by omega)
        clear hs1 hs2 hkp hkq
        have HRV := Aside0.mk (fun n => slices_Reverse_int_int.calls k (fun k => w2.heap.size ≤ k) (.slice Aq Q.length cq) Q.reverse q' w2 (w3.drewN n) (pw_below_drewN HB3.out n) (Kd.R_drewN HQ.out n) HREV.out)
        go_wp2
        repeat (go_quiet (fail); try (go_wp2_with (go_at_call 68; go_must ((with_reducible refine (HRV.out _).mono ?_); rintro e w4 ⟨rfl, hR4, hB4, hK4⟩; have HR4 := Aside0.mk hR4; have HB4 := Aside0.mk hB4; have HP4 := Aside0.mk (Kd.R_step (Kd.R_drewN HP.out _) (fun k hk hl => hK4.2 k hl (Nat.not_le.mpr hk))); clear hR4 hB4 hK4))))
        have hlen4 : Q.length = q'.length := (Kd.R_reads' HR4.out).1
        have hn1 := HNE.out
        have hql := HQL.out
        have hkl := HKL.out
        obtain ⟨adq, eaq, _⟩ := Kd.at_int (Kd.R_reads' HR4.out).2.2 0 (by omega) (by omega)
        subst eaq
        obtain ⟨i0, hi0, _, hsz0, _⟩ := info_parts info3
        have hcf := cut_from (P := Try.prog) 22 3 .i64 Try.underlying22 hi0 1 hsz0 (some adq) Q.length cq 1 (by omega) (by omega)
        have hr5 := Kd.C_drop (m := 1) (Kd.R_reads' HR4.out).2.2 (by omega) (by have := (Kd.R_reads' HR4.out).2.1; omega : q'.length ≤ cq)
        have hs1 : (Kd.int .i64).sz = 1 := rfl
        rw [hs1] at hr5
        rw [show (1 : Int).toNat = 1 from rfl] at hcf
        obtain ⟨A5, hA5⟩ : ∃ A5, (if cq = 1 then (some adq : Option Addr) else (some adq : Option Addr).map (·.add (1 * 1))) = A5 := ⟨_, rfl⟩
        rw [hA5] at hcf hr5
        have hl5 : (q'.drop 1).length = Q.length - 1 := by rw [List.length_drop]; omega
        rw [← hl5] at hcf
        obtain ⟨D, hD⟩ : ∃ D, q'.drop 1 = D := ⟨_, rfl⟩
        rw [hD] at hcf hr5 hl5
        have HC5 := Aside0.mk hr5
        have hBW4 : Below W.heap.size W w4 := below_then (below_step HBW1.out HB2.out) (below_step HBW1.out HB2.out).size HB4.out
        have HBW4 := Aside0.mk hBW4
        have hg4 : w4.heap[g]? = some (.cells #[vn, .map (some bs), .map (some bf), vc] 91 (0, 0)) := (hBW4.block g HGC.out.2).trans (((HBW1.out.block g HGC.out.2).symm).trans HG1.out)
        have hgbb : w4.heap[W.heap.size]? = some (.cells #[.pointer (some ⟨g, 0, none⟩)] 88 (0, 0)) := ((below_then HB2.out HB2.out.size HB4.out).block W.heap.size (by simp)).trans HGB.out
        have hgb4 : w4.cell? ⟨W.heap.size, 0, none⟩ = some (.pointer (some ⟨g, 0, none⟩)) := (blk_cell hgbb 0).trans rfl
        have HGBB := Aside0.mk hgbb
        have hne5 : some W.heap.size ≠ (Value.slice Ap P.length cp).ownBlock := Kd.R_ne HP4.out hgbb (by decide)
        have HNE5 := Aside0.mk hne5
        have HG4 := Aside0.mk hg4
        have hgne : g ≠ W.heap.size := by have := HGC.out.2; omega
        have HKP := Aside0.mk (fun (W' : World) (hW' : Below w4.heap.size w4 W') => (hW'.cell (World.block_lt_of_cell? w4 _ hgb4)).trans hgb4)
        have HPL2 := Aside0.mk (show (P.reverse.length + D.length) * 8 ≤ 140737488355328 by rw [List.length_reverse]; omega)
        have HFIN := Aside0.mk (show P.reverse ++ D = c by rw [← hD]; exact HRES.out)
        have hne4 : some g ≠ (Value.slice Ap P.length cp).ownBlock := Kd.R_ne HP4.out hg4 (by decide)
        have HNE4 := Aside0.mk hne4
        clear hr5 hi0 hsz0 hA5 hl5 hlen4 hn1 hql hBW4 hg4 hgb4 hne4 hs1 hkl HRV hD hgbb hne5
        go_region_held_law (fun W' => W'.cell? ⟨W.heap.size, 0, none⟩ = some (.pointer (some ⟨g, 0, none⟩)))
          ((first | assumption | (rw [World.cell?_setCell_far _ _ _ _ hgne]; assumption) | exact HKP.out _ (by repeat (first | exact Below.refl _ _ | apply pw_below_drewN | apply below_drew1))))
          ((refine Kd.R_append_rows_step (Kd.int .i64) (w0 := W) W.heap.size rfl _ _ 22 3 (.int .i64 0) 8 rfl Try.underlying22 info3 rfl (by decide) (by omega) (.slice Ap P.length cp) P.reverse D _ _ _ (fun _ => True) (fun _ => False) rfl rfl (Kd.R_lower (Kd.R_mono (Kd.R_drew HP4.out) (fun _ _ => trivial)) (by simp)) (Kd.C_drew HC5.out) (fun _ _ h => h) (fun _ h => h.elim) (fun _ _ => trivial) (by repeat (first | exact HBW4.out | apply pw_below_drewN | apply below_drew1)) (show W.heap.size ≤ w4.heap.size from HBW4.out.size) HPL2.out ?_; intro v5 w5 hR5 hB5 hg5 _; obtain ⟨A6, c6, e6⟩ := Kd.R_slice hR5; subst e6; (rw [show (P.reverse ++ D).length = P.length + D.length by simp] at hR5); have hb5 : w5.heap[g]? = some (.cells #[vn, .map (some bs), .map (some bf), vc] 91 (0, 0)) := blk_grown (show w4.drew.heap[g]? = _ from HG4.out) hg5 HNE4.out; have hc5 : w5.cell? ⟨g, 3, none⟩ = some vc := (blk_cell hb5 3).trans rfl; have hf5 : w5.frozen? ⟨g, 3, none⟩ = false := blk_frozen hb5 3; have hS5 : w5.cell? ⟨W.heap.size, 0, none⟩ = some (.pointer (some ⟨g, 0, none⟩)) := (blk_cell (blk_grown (show w4.drew.heap[W.heap.size]? = _ from HGBB.out) hg5 HNE5.out) 0).trans rfl; have HR5 := Aside0.mk hR5; have HB5 := Aside0.mk hB5; have HG5 := Aside0.mk hb5; clear hR5 hB5 hg5 hb5; (try simp only [Act.put, List.getElem_toArray, List.getElem_cons_succ, List.getElem_cons_zero, List.setIfInBounds_toArray, List.set_cons_zero, List.set_cons_succ])))
        all_goals (
          go_wp2
          go_end0
          exact ⟨rfl, .slice A6 (P.length + D.length) c6, (blk_cell (blk_put HG5.out 3 _ rfl) 3).trans rfl, by rw [← HFIN.out]; exact Kd.R_set HR5.out HG5.out (by simp [Kd.int, Kd.scalar]) 3 _, Below.setCell (below_then HBC.out HBC.out.size HB5.out) (p := ⟨g, 3, none⟩) HGC.out.1 _⟩)
      · generalize hP : x :: y :: s = P at *
        generalize hQ : x' :: y' :: tt = Q at *
        have hnp2 : P.length = s.length + 2 := by rw [← hP]; rfl
        have hnq2 : Q.length = tt.length + 2 := by rw [← hQ]; rfl
        have hkl := HKL.out
        have hql := HQL.out
        obtain ⟨jp, hjp⟩ : ∃ jp : Int, jp = (s.length : Int) := ⟨_, rfl⟩
        obtain ⟨jq, hjq⟩ : ∃ jq : Int, jq = (tt.length : Int) := ⟨_, rfl⟩
        obtain ⟨adp, eap, hxp⟩ := Kd.at_int hkp.2.2 jp (by omega) (by rw [List.length_reverse]; omega)
        obtain ⟨adq0, eaq0, hxq⟩ := Kd.at_int hkq.2.2 jq (by omega) (by rw [List.length_reverse]; omega)
        subst eap
        subst eaq0
        rw [show rd P.reverse jp = y by rw [← hP, hjp]; exact (rev2 x y s).1] at hxp
        rw [show rd Q.reverse jq = y' by rw [← hQ, hjq]; exact (rev2 x' y' tt).1] at hxq
        have hwp : IntKind.i64.wrap ((P.length : Int) - 2) = jp := by rw [IntWalk.i64_in _ (by omega)]; omega
        have hwq : IntKind.i64.wrap ((Q.length : Int) - 2) = jq := by rw [IntWalk.i64_in _ (by omega)]; omega
        have g1 : decide (1 < P.length) = true := decide_eq_true (by omega)
        have g2 : decide ((1 : Int) < (P.length : Int)) = true := decide_eq_true (by omega)
        have g3 : decide (1 < Q.length) = true := decide_eq_true (by omega)
        have g4 : decide ((1 : Int) < (Q.length : Int)) = true := decide_eq_true (by omega)
        have pj := eq_true (show 0 ≤ jp by omega)
        have qj := eq_true (show jp < (P.length : Int) by omega)
        have pj2 := eq_true (show 0 ≤ jq by omega)
        have qj2 := eq_true (show jq < (Q.length : Int) by omega)
        have hyb : (y == y') = false := beq_eq_false_iff_ne.mpr hyy
        clear hP hQ hnp2 hnq2 hjp hjq hkp hkq hkl hql hyy ct
        have HRV := Aside0.mk (fun n => slices_Reverse_int_int.calls k (fun k => w2.heap.size ≤ k) (.slice (some adq0) Q.length cq) Q.reverse q' w2 (w3.drewN n) (pw_below_drewN HB3.out n) (Kd.R_drewN HQ.out n) HREV.out)
        go_wp2
        repeat (go_quiet (fail); try (go_wp2_with (go_at_call 68; go_must ((with_reducible refine (HRV.out _).mono ?_); rintro e w4 ⟨rfl, hR4, hB4, hK4⟩; have HR4 := Aside0.mk hR4; have HB4 := Aside0.mk hB4; have HP4 := Aside0.mk (Kd.R_step (Kd.R_drewN HP.out _) (fun k hk hl => hK4.2 k hl (Nat.not_le.mpr hk))); clear hR4 hB4 hK4))))
        have hlen4 : Q.length = q'.length := (Kd.R_reads' HR4.out).1
        have hn1 := HNE.out
        have hql := HQL.out
        have hkl := HKL.out
        obtain ⟨adq, eaq, _⟩ := Kd.at_int (Kd.R_reads' HR4.out).2.2 0 (by omega) (by omega)
        cases eaq
        obtain ⟨i0, hi0, _, hsz0, _⟩ := info_parts info3
        have hcf := cut_from (P := Try.prog) 22 3 .i64 Try.underlying22 hi0 1 hsz0 (some adq0) Q.length cq 1 (by omega) (by omega)
        have hr5 := Kd.C_drop (m := 1) (Kd.R_reads' HR4.out).2.2 (by omega) (by have := (Kd.R_reads' HR4.out).2.1; omega : q'.length ≤ cq)
        have hs1 : (Kd.int .i64).sz = 1 := rfl
        rw [hs1] at hr5
        rw [show (1 : Int).toNat = 1 from rfl] at hcf
        obtain ⟨A5, hA5⟩ : ∃ A5, (if cq = 1 then (some adq0 : Option Addr) else (some adq0 : Option Addr).map (·.add (1 * 1))) = A5 := ⟨_, rfl⟩
        rw [hA5] at hcf hr5
        have hl5 : (q'.drop 1).length = Q.length - 1 := by rw [List.length_drop]; omega
        rw [← hl5] at hcf
        obtain ⟨D, hD⟩ : ∃ D, q'.drop 1 = D := ⟨_, rfl⟩
        rw [hD] at hcf hr5 hl5
        have HC5 := Aside0.mk hr5
        have hBW4 : Below W.heap.size W w4 := below_then (below_step HBW1.out HB2.out) (below_step HBW1.out HB2.out).size HB4.out
        have HBW4 := Aside0.mk hBW4
        have hg4 : w4.heap[g]? = some (.cells #[vn, .map (some bs), .map (some bf), vc] 91 (0, 0)) := (hBW4.block g HGC.out.2).trans (((HBW1.out.block g HGC.out.2).symm).trans HG1.out)
        have hgbb : w4.heap[W.heap.size]? = some (.cells #[.pointer (some ⟨g, 0, none⟩)] 88 (0, 0)) := ((below_then HB2.out HB2.out.size HB4.out).block W.heap.size (by simp)).trans HGB.out
        have hgb4 : w4.cell? ⟨W.heap.size, 0, none⟩ = some (.pointer (some ⟨g, 0, none⟩)) := (blk_cell hgbb 0).trans rfl
        have HGBB := Aside0.mk hgbb
        have hne5 : some W.heap.size ≠ (Value.slice (some adp) P.length cp).ownBlock := Kd.R_ne HP4.out hgbb (by decide)
        have HNE5 := Aside0.mk hne5
        have HG4 := Aside0.mk hg4
        have hgne : g ≠ W.heap.size := by have := HGC.out.2; omega
        have HKP := Aside0.mk (fun (W' : World) (hW' : Below w4.heap.size w4 W') => (hW'.cell (World.block_lt_of_cell? w4 _ hgb4)).trans hgb4)
        have HPL2 := Aside0.mk (show (P.reverse.length + D.length) * 8 ≤ 140737488355328 by rw [List.length_reverse]; omega)
        have HFIN := Aside0.mk (show P.reverse ++ D = c by rw [← hD]; exact HRES.out)
        have hne4 : some g ≠ (Value.slice (some adp) P.length cp).ownBlock := Kd.R_ne HP4.out hg4 (by decide)
        have HNE4 := Aside0.mk hne4
        clear hr5 hi0 hsz0 hA5 hl5 hlen4 hn1 hql hBW4 hg4 hgb4 hne4 hs1 hkl HRV hD hgbb hne5
        go_region_held_law (fun W' => W'.cell? ⟨W.heap.size, 0, none⟩ = some (.pointer (some ⟨g, 0, none⟩)))
          ((first | assumption | (rw [World.cell?_setCell_far _ _ _ _ hgne]; assumption) | exact HKP.out _ (by repeat (first | exact Below.refl _ _ | apply pw_below_drewN | apply below_drew1))))
          ((refine Kd.R_append_rows_step (Kd.int .i64) (w0 := W) W.heap.size rfl _ _ 22 3 (.int .i64 0) 8 rfl Try.underlying22 info3 rfl (by decide) (by omega) (.slice (some adp) P.length cp) P.reverse D _ _ _ (fun _ => True) (fun _ => False) rfl rfl (Kd.R_lower (Kd.R_mono (Kd.R_drew HP4.out) (fun _ _ => trivial)) (by simp)) (Kd.C_drew HC5.out) (fun _ _ h => h) (fun _ h => h.elim) (fun _ _ => trivial) (by repeat (first | exact HBW4.out | apply pw_below_drewN | apply below_drew1)) (show W.heap.size ≤ w4.heap.size from HBW4.out.size) HPL2.out ?_; intro v5 w5 hR5 hB5 hg5 _; obtain ⟨A6, c6, e6⟩ := Kd.R_slice hR5; subst e6; (rw [show (P.reverse ++ D).length = P.length + D.length by simp] at hR5); have hb5 : w5.heap[g]? = some (.cells #[vn, .map (some bs), .map (some bf), vc] 91 (0, 0)) := blk_grown (show w4.drew.heap[g]? = _ from HG4.out) hg5 HNE4.out; have hc5 : w5.cell? ⟨g, 3, none⟩ = some vc := (blk_cell hb5 3).trans rfl; have hf5 : w5.frozen? ⟨g, 3, none⟩ = false := blk_frozen hb5 3; have hS5 : w5.cell? ⟨W.heap.size, 0, none⟩ = some (.pointer (some ⟨g, 0, none⟩)) := (blk_cell (blk_grown (show w4.drew.heap[W.heap.size]? = _ from HGBB.out) hg5 HNE5.out) 0).trans rfl; have HR5 := Aside0.mk hR5; have HB5 := Aside0.mk hB5; have HG5 := Aside0.mk hb5; clear hR5 hB5 hg5 hb5; (try simp only [Act.put, List.getElem_toArray, List.getElem_cons_succ, List.getElem_cons_zero, List.setIfInBounds_toArray, List.set_cons_zero, List.set_cons_succ])))
        all_goals (
          go_wp2
          go_end0
          exact ⟨rfl, .slice A6 (P.length + D.length) c6, (blk_cell (blk_put HG5.out 3 _ rfl) 3).trans rfl, by rw [← HFIN.out]; exact Kd.R_set HR5.out HG5.out (by simp [Kd.int, Kd.scalar]) 3 _, Below.setCell (below_then HBC.out HBC.out.size HB5.out) (p := ⟨g, 3, none⟩) HGC.out.1 _⟩)

/-- Only these three blocks, of those that were there, have changed. -/
theorem lit_new (W : World) (x : Int) : Kd.R (Kd.int .i64) 3 (W.alloc (.cells #[.int .i64 x] 3)) W.heap.size (fun _ => True) (.slice (some ⟨W.heap.size, 0, none⟩) 1 1) [x] := by
  refine ⟨fun k hk => trivial, [.int .i64 x], ?_, ?_⟩
  · have h2 := World.ownsRow_lit (base := W.heap.size) (e := 3) (size := 1) W #[.int .i64 x] 1 (Nat.le_refl _) (by decide) (by simp)
    exact (by simpa using h2 : (W.alloc (.cells #[.int .i64 x] 3)).ownsRow W.heap.size 3 1 (.slice (some ⟨W.heap.size, 0, none⟩) 1 1) 1 [.int .i64 x])
  · exact Reps.one (show Kd.M (Kd.int .i64) _ _ _ x [.int .i64 x] from rfl) (Reps.none _ _)
def Chg (W w : World) (g bs bf : Nat) : Prop := W.heap.size ≤ w.heap.size ∧ ∀ k, k < W.heap.size → k ≠ bs → k ≠ bf → k ≠ g → w.heap[k]? = W.heap[k]?
structure ColAt (wc W0 W : World) (g bs bf : Nat) (vn vc : Value) (c : Col) (ms mf M : Nat) : Prop where
  blk : W.heap[g]? = some (.cells #[vn, .map (some bs), .map (some bf), vc] 91 (0, 0))
  side : MapAt W Try.prog 3 bs ms (encO c.1)
  frm : MapAt W Try.prog 3 bf mf (encO c.2.1)
  ms_le : ms ≤ M + c.2.2.length
  mf_le : mf ≤ M + c.2.2.length
  below : Below wc.heap.size wc W
  chg : Chg W0 W g bs bf
theorem ColAt.drewN {wc W0 W : World} {g bs bf : Nat} {vn vc : Value} {c : Col} {ms mf M : Nat} (h : ColAt wc W0 W g bs bf vn vc c ms mf M) (n : Nat) : ColAt wc W0 (W.drewN n) g bs bf vn vc c ms mf M :=
  ⟨h.blk, h.side.drewN n, h.frm.drewN n, h.ms_le, h.mf_le, pw_below_drewN h.below n, h.chg⟩
theorem encO_zero (f : Int → Option Int) (x : Int) : encO (put_ f x 0) (.int .i64 x) = some (.int .i64 0) := encO_put f x 0

theorem grown_block {W W1 : World} {b : Nat} (h : W.grownBy W1 (some b)) : ∀ k, k < W.heap.size → k ≠ b → W1.heap[k]? = W.heap[k]? := fun k hk hne => h.block k hk (fun e => hne (by injection e))
/-- The entries of both maps for a new key, and the stores into them. -/
theorem col_entries {W : World} {base bs bf ms mf : Nat} {sd fr : Int → Option Int} (hs : MapAt W Try.prog 3 bs ms (encO sd)) (hf : MapAt W Try.prog 3 bf mf (encO fr)) (hne : bs ≠ bf) (hbs : base ≤ bs) (hbf : base ≤ bf) {x : Int} (h0 : 0 ≤ x) (h1 : x ≤ 1000) (hsx : sd x = none) (hfx : fr x = none) (hm1 : ms < maxLen) (hm2 : mf < maxLen) (u v : Int) :
    ∃ (t1 t2 : Nat → Int) (W1 W2 W3 W4 : Nat → World), ∀ n,
      (Instr.mapEntry 80 (.map (some bs)) (.int .i64 x)).run Try.prog (W.drewN n) = .ok (.tuple #[.int .i64 0, .int .i64 (t1 n)]) (W1 n) ∧
      (Instr.entryStore 80 (.map (some bs)) (.int .i64 (t1 n)) (.int .i64 u)).run Try.prog (W1 n) = .ok () (W2 n) ∧
      (Instr.mapEntry 80 (.map (some bf)) (.int .i64 x)).run Try.prog (W2 n) = .ok (.tuple #[.int .i64 0, .int .i64 (t2 n)]) (W3 n) ∧
      (Instr.entryStore 80 (.map (some bf)) (.int .i64 (t2 n)) (.int .i64 v)).run Try.prog (W3 n) = .ok () (W4 n) ∧
      MapAt (W1 n) Try.prog 3 bs (ms + 1) (encO (put_ sd x 0)) ∧
      MapAt (W4 n) Try.prog 3 bs (ms + 1) (encO (put_ sd x u)) ∧ MapAt (W4 n) Try.prog 3 bf (mf + 1) (encO (put_ fr x v)) ∧
      (∀ k, k < W.heap.size → k ≠ bs → k ≠ bf → (W1 n).heap[k]? = W.heap[k]? ∧ (W2 n).heap[k]? = W.heap[k]? ∧ (W3 n).heap[k]? = W.heap[k]? ∧ (W4 n).heap[k]? = W.heap[k]?) ∧
      W.heap.size ≤ (W4 n).heap.size ∧ Below base W (W4 n) := by
  have key := stacks_key h0 h1
  have all : ∀ n, ∃ (y : (Int × Int) × (World × World × World × World)),
      (Instr.mapEntry 80 (.map (some bs)) (.int .i64 x)).run Try.prog (W.drewN n) = .ok (.tuple #[.int .i64 0, .int .i64 y.1.1]) y.2.1 ∧
      (Instr.entryStore 80 (.map (some bs)) (.int .i64 y.1.1) (.int .i64 u)).run Try.prog y.2.1 = .ok () y.2.2.1 ∧
      (Instr.mapEntry 80 (.map (some bf)) (.int .i64 x)).run Try.prog y.2.2.1 = .ok (.tuple #[.int .i64 0, .int .i64 y.1.2]) y.2.2.2.1 ∧
      (Instr.entryStore 80 (.map (some bf)) (.int .i64 y.1.2) (.int .i64 v)).run Try.prog y.2.2.2.1 = .ok () y.2.2.2.2 ∧
      MapAt y.2.1 Try.prog 3 bs (ms + 1) (encO (put_ sd x 0)) ∧
      MapAt y.2.2.2.2 Try.prog 3 bs (ms + 1) (encO (put_ sd x u)) ∧ MapAt y.2.2.2.2 Try.prog 3 bf (mf + 1) (encO (put_ fr x v)) ∧
      (∀ k, k < W.heap.size → k ≠ bs → k ≠ bf → y.2.1.heap[k]? = W.heap[k]? ∧ y.2.2.1.heap[k]? = W.heap[k]? ∧ y.2.2.2.1.heap[k]? = W.heap[k]? ∧ y.2.2.2.2.heap[k]? = W.heap[k]?) ∧
      W.heap.size ≤ y.2.2.2.2.heap.size ∧ Below base W y.2.2.2.2 := by
    intro n
    obtain ⟨t1, W1, W2, e1, e2, m1, g1, m2, g2⟩ := (hs.drewN n).entryNew (Maps.int_keyed Try.underlying3) Try.underlying80 stacks_zero hm1 key (encO_none hsx) (.int .i64 u) (encO_put sd x u) (encO_far sd x u) (encO_zero sd x) (encO_far sd x 0)
    have hf2 : MapAt W2 Try.prog 3 bf mf (encO fr) := (hf.drewN n).kept g2 (fun e => hne (by injection e with e; exact e.symm))
    obtain ⟨t2, W3, W4, e3, e4, m3, g3, m4, g4⟩ := hf2.entryNew (Maps.int_keyed Try.underlying3) Try.underlying80 stacks_zero hm2 key (encO_none hfx) (.int .i64 v) (encO_put fr x v) (encO_far fr x v) (encO_zero fr x) (encO_far fr x 0)
    have z2 : W.heap.size ≤ W2.heap.size := g2.size
    refine ⟨((t1, t2), (W1, W2, W3, W4)), e1, e2, e3, e4, m1, m2.kept g4 (fun e => hne (by injection e)), m4, fun k hk n1 n2 => ?_, ?_, ?_⟩
    · have a1 := grown_block g1 k hk n1
      have a2 := grown_block g2 k hk n1
      have a3 := grown_block g3 k (Nat.lt_of_lt_of_le hk z2) n2
      have a4 := grown_block g4 k (Nat.lt_of_lt_of_le hk z2) n2
      exact ⟨a1, a2, a3.trans a2, a4.trans a2⟩
    · have := g4.size
      show W.heap.size ≤ W4.heap.size
      omega
    · have hbsz : base ≤ W.heap.size := by have := hs.lt; omega
      have b1 : Below base W W2 := pw_below_grown (w1 := W.drewN n) (pw_below_drewN (Below.refl _ _) n) (some bs) hbsz g2 (fun k hk => by injection hk with hk; omega)
      exact pw_below_grown b1 (some bf) (by omega) g4 (fun k hk => by injection hk with hk; omega)
  exact ⟨fun n => (Classical.choose (all n)).1.1, fun n => (Classical.choose (all n)).1.2, fun n => (Classical.choose (all n)).2.1, fun n => (Classical.choose (all n)).2.2.1, fun n => (Classical.choose (all n)).2.2.2.1, fun n => (Classical.choose (all n)).2.2.2.2, fun n => Classical.choose_spec (all n)⟩

set_option maxHeartbeats 4000000 in
set_option maxRecDepth 100000 in
theorem visit_fn.calls (k : Nat) (near : List (List Int)) (An : Option Addr) (cn : Nat) (wc W : World) (g bs bf ms mf M : Nat) (sd fr : Int → Option Int) (s : Int) (vc : Value) (st : Col) (r : Option (Int × Int))
    (hn : Kd.C (Kd.slice 3 (Kd.int .i64)) wc An near.length near) (hg : W.heap[g]? = some (.cells #[.slice An near.length cn, .map (some bs), .map (some bf), vc] 91 (0, 0))) (hgc : wc.heap.size ≤ g) (hbs : wc.heap.size ≤ bs) (hbf : wc.heap.size ≤ bf) (hne : bs ≠ bf)
    (hs : MapAt W Try.prog 3 bs ms (encO sd)) (hf : MapAt W Try.prog 3 bf mf (encO fr)) (hM : ms ≤ M ∧ mf ≤ M) (hM2 : M ≤ 1000000) (hB : Below wc.heap.size wc W) (h : visitF near sd fr s = some (st, r)) (hcl : ∀ a b, r = some (a, b) → ∃ c, closeF (slices_Reverse_int_int.f k) st.2.1 a b = some c) :
    Calls Try.prog 75 #[.pointer (some ⟨g, 0, none⟩), .int .i64 s] W fun e w' => e = .returned (.bool r.isNone) ∧ (r = none → ∃ ms' mf', ms' ≤ M + 2000 ∧ mf' ≤ M + 2000 ∧ w'.heap[g]? = some (.cells #[.slice An near.length cn, .map (some bs), .map (some bf), vc] 91 (0, 0)) ∧ MapAt w' Try.prog 3 bs ms' (encO st.1) ∧ MapAt w' Try.prog 3 bf mf' (encO st.2.1) ∧ Chg W w' g bs bf) ∧
      (∀ a b, r = some (a, b) → ∃ c vc', closeF (slices_Reverse_int_int.f k) st.2.1 a b = some c ∧ w'.cell? ⟨g, 3, none⟩ = some vc' ∧ Kd.R (Kd.int .i64) 3 w' wc.heap.size (fun _ => True) vc' c) ∧ Below wc.heap.size wc w' := by
  unfold visitF at h
  by_cases hcond : 0 ≤ s ∧ s ≤ 1000 ∧ sd s = none ∧ fr s = none
  case neg => rw [if_neg hcond] at h; cases h
  rw [if_pos hcond] at h
  obtain ⟨s0, s1, s2, s3⟩ := hcond
  have hml : (1100000 : Nat) < maxLen := by decide
  have hgs : bs ≠ g := hs.ne hg
  have hgf : bf ≠ g := hf.ne hg
  have hlt : g < W.heap.size := by
    apply Nat.lt_of_not_le
    intro hn
    simp [hn] at hg
  obtain ⟨t1, t2, W1, W2, W3, W4, hE⟩ := col_entries hs hf hne hbs hbf s0 s1 s2 s3 (by omega) (by omega) 0 (-1)
  have hE1 := fun n => (hE n).1
  have hE2 := fun n => (hE n).2.1
  have hE3 := fun n => (hE n).2.2.1
  have hE4 := fun n => (hE n).2.2.2.1
  have hE1d : (Instr.mapEntry 80 (.map (some bs)) (.int .i64 s)).run Try.prog W.drew = .ok (.tuple #[.int .i64 0, .int .i64 (t1 1)]) (W1 1) := hE1 1
  have HE := Aside0.mk hE
  have sg : ∀ W' : World, W'.heap[g]? = W.heap[g]? → W'.cell? ⟨g, 1, none⟩ = some (.map (some bs)) ∧ W'.cell? ⟨g, 2, none⟩ = some (.map (some bf)) := fun W' e => ⟨(blk_cell (e.trans hg) 1).trans rfl, (blk_cell (e.trans hg) 2).trans rfl⟩
  have hS0 : ∀ n, (W.drewN n).cell? ⟨g, 1, none⟩ = some (.map (some bs)) ∧ (W.drewN n).cell? ⟨g, 2, none⟩ = some (.map (some bf)) := fun n => sg _ rfl
  have hSd : W.drew.cell? ⟨g, 1, none⟩ = some (.map (some bs)) ∧ W.drew.cell? ⟨g, 2, none⟩ = some (.map (some bf)) := sg _ rfl
  have hS1 := fun n => sg _ ((hE n).2.2.2.2.2.2.2.1 g hlt hgs.symm hgf.symm).1
  have hS2 := fun n => sg _ ((hE n).2.2.2.2.2.2.2.1 g hlt hgs.symm hgf.symm).2.1
  have hS3 := fun n => sg _ ((hE n).2.2.2.2.2.2.2.1 g hlt hgs.symm hgf.symm).2.2.1
  have hS4 := fun n => sg _ ((hE n).2.2.2.2.2.2.2.1 g hlt hgs.symm hgf.symm).2.2.2
  have HS := Aside0.mk (And.intro hS0 (And.intro hSd (And.intro hS1 (And.intro hS2 (And.intro hS3 hS4)))))
  have HN := Aside0.mk hn
  have HCL := Aside0.mk hcl
  have HH := Aside0.mk h
  have HGG := Aside0.mk (show g < W.heap.size ∧ bs < W.heap.size ∧ bf < W.heap.size ∧ wc.heap.size ≤ g ∧ wc.heap.size ≤ bs ∧ wc.heap.size ≤ bf from ⟨hlt, hs.lt, hf.lt, hgc, hbs, hbf⟩)
  have HNE := Aside0.mk (show bs ≠ bf ∧ bs ≠ g ∧ bf ≠ g from ⟨hne, hgs, hgf⟩)
  have HG := Aside0.mk hg
  have HBC := Aside0.mk hB
  have HM := Aside0.mk hM
  have HM2 := Aside0.mk hM2
  have hc1 := (hS0 0).1
  clear h hcl hn hE hS0 hSd hS1 hS2 hS3 hS4 sg hg hgc hbs hbf hlt hs hf hM hM2 hB s2 s3 hne hgs hgf hml hc1
  go_enter Try.func75, Try.ntmps75
  go_wp2
  go_region_held_law (fun W' => W'.cell? ⟨g, 1, none⟩ = some (.map (some bs)) ∧ W'.cell? ⟨g, 2, none⟩ = some (.map (some bf)))
    ((first | exact HS.out.2.1 | exact HS.out.1 _ | exact HS.out.2.2.1 _ | exact HS.out.2.2.2.1 _ | exact HS.out.2.2.2.2.1 _ | exact HS.out.2.2.2.2.2 _))
    (fail)
  obtain ⟨hwc0, hwc1, hwc2, hwc3, hwc4, hwc5⟩ := HGG.out
  obtain ⟨hne0, hne1, hne2⟩ := HNE.out
  obtain ⟨_, _, _, _, _, hz1, hz2, hz3, hz4, hz5⟩ := HE.out 1
  have hw4 : Below wc.heap.size wc (W4 1) := HBC.out.trans hz5
  have hC5 : ColAt wc W ((W4 1).alloc (.cells #[.int .i64 s] 3)) g bs bf (.slice An near.length cn) vc (put_ sd s 0, put_ fr s (-1), [s]) (ms + 1) (mf + 1) M :=
    ⟨(Below.heap_alloc _ _ g (by omega)).trans ((hz3 g hwc0 hne1.symm hne2.symm).2.2.2.trans HG.out), hz1.alloc _, hz2.alloc _, by have := HM.out.1; simp; omega, by have := HM.out.2; simp; omega,
      hw4.alloc hw4.size _, by simp; omega, fun k hk n1 n2 n3 => (Below.heap_alloc _ _ k (by omega)).trans (hz3 k hk n1 n2).2.2.2⟩
  have hQ5 : Kd.R (Kd.int .i64) 3 ((W4 1).alloc (.cells #[.int .i64 s] 3)) W.heap.size (fun k => W.heap.size ≤ k) (.slice (some ⟨(W4 1).heap.size, 0, none⟩) 1 1) [s] :=
    Kd.R_lower (Kd.R_mono (Kd.R_bound (lit_new (W4 1) s)) (fun k hk => by have := hk.2.1; omega)) hz4
  have HC5 := Aside0.mk hC5
  have HQ5 := Aside0.mk hQ5
  clear hE1 hE2 hE3 hE4 hE1d HE HS hw4 hC5 hQ5 hz1 hz2 hz3 hz4 hz5 hwc0 hwc1 hwc2 hwc3 hwc4 hwc5 hne0 hne1 hne2 HBC HM
  go_wp2
  go_loopg [5, 6] 100 (fun kq v5 v6 wr => ∃ (i : Int) (c : Col) (m1 m2 : Nat), v6 = .int .i64 i ∧ Aside0 (colOut near kq i c = some (st, r)) ∧ Aside0 (0 ≤ i ∧ i + kq = 100) ∧ Aside0 (ColAt wc W wr g bs bf (.slice An near.length cn) vc c m1 m2 M) ∧ Aside0 (c.2.2.length ≤ 1001) ∧ Aside0 (Kd.R (Kd.int .i64) 3 wr W.heap.size (fun k => W.heap.size ≤ k) v5 c.2.2))
  case atStart => exact ⟨0, _, _, _, rfl, HH, ⟨by omega⟩, HC5, ⟨by simp⟩, HQ5⟩
  case round =>
    clear HH HC5 HQ5
    obtain ⟨i, c, m1, m2, rfl, HO, HI, HC, HQL, HQ⟩ := hrel
    obtain ⟨i0, i1⟩ := HI.out
    obtain ⟨m, hm⟩ : ∃ m, gk = m + 1 := by
      cases gk with
      | zero => have := HO.out; cases this
      | succ m => exact ⟨m, rfl⟩
    have ho := HO.out
    rw [hm] at ho
    unfold colOut at ho
    obtain ⟨A5, c5, e5⟩ := Kd.R_slice HQ.out
    subst e5
    by_cases c1 : i < (c.2.2.length : Int)
    case neg =>
      rw [if_neg c1] at ho
      injection ho with ho
      injection ho with e1 e2
      subst e1; subst e2
      have c1b : decide (i < (c.2.2.length : Int)) = false := decide_eq_false c1
      have hM2 := HM2.out
      have hql := HQL.out
      have hc1 := HC.out.ms_le
      have hc2 := HC.out.mf_le
      have HF := Aside0.mk (show m1 ≤ M + 2000 ∧ m2 ≤ M + 2000 by omega)
      clear c1 HO hm i0 i1 hM2 hql hc1 hc2
      go_wp2
      go_ret
      exact ⟨rfl, ⟨m1, HF.out.1, m2, HF.out.2, HC.out.blk, HC.out.side, HC.out.frm, HC.out.chg⟩, HC.out.below⟩
    rw [if_pos c1] at ho
    have c1b : decide (i < (c.2.2.length : Int)) = true := decide_eq_true c1
    obtain ⟨adq, eaq, hxq⟩ := Kd.at_int (Kd.R_reads' HQ.out).2.2 i i0 c1
    subst eaq
    obtain ⟨a, ha⟩ : ∃ a, a = rd c.2.2 i := ⟨_, rfl⟩
    rw [← ha] at ho hxq
    by_cases c2 : 0 ≤ a ∧ a < near.length ∧ a ≤ 1000
    case neg => rw [if_neg c2] at ho; cases ho
    rw [if_pos c2] at ho
    obtain ⟨a0, a1, a2⟩ := c2
    replace ho := Option.bind_eq_some_iff.mp ho
    obtain ⟨PP, hP, ho⟩ := ho
    obtain ⟨adn, A0, c0, ean, hxn, hcn, hLr⟩ := at_L1 HN.out a a0 a1
    subst ean
    obtain ⟨L, hL⟩ : ∃ L, L = rd_L1 near a := ⟨_, rfl⟩
    rw [show near_ near a = L from hL.symm] at hP
    rw [← hL] at hxn hcn hLr
    have hmL : (L.length : Int) ≤ 9223372036854775807 := by have := hLr.2.1; omega
    replace hxn := (HC.out.below.cell (World.block_lt_of_cell? wc _ hxn)).trans hxn
    have hg0 : wr.cell? ⟨g, 0, none⟩ = some (.slice (some adn) near.length cn) := (blk_cell HC.out.blk 0).trans rfl
    have p0 := eq_true i0
    have q0 := eq_true c1
    have p1 := eq_true a0
    have q1 := eq_true a1
    have HOO := Aside0.mk ho
    have HP := Aside0.mk hP
    have HLR := Aside0.mk hLr
    have HML := Aside0.mk hmL
    have HA := Aside0.mk (show 0 ≤ a ∧ a ≤ 1000 from ⟨a0, a2⟩)
    have HMM := Aside0.mk (show m < gk ∧ i + 1 + m = 100 by omega)
    have hi100 : i ≤ 100 := by omega
    clear ho hP hL hcn hLr hmL a0 a1 a2 c1 HO hm i1 ha HI
    go_wp2
    go_loopw [5, 46] (fun v5 v46 wr2 => ∃ (j : Int) (c' : Col) (m1' m2' : Nat), v46 = .int .i64 j ∧ Aside0 (0 ≤ j ∧ j ≤ L.length) ∧ Aside0 (colIn a (L.drop j.toNat) c' = some PP) ∧ Aside0 (ColAt wc W wr2 g bs bf (.slice (some adn) near.length cn) vc c' m1' m2' M) ∧ Aside0 (c'.2.2.length ≤ 1001) ∧ Aside0 (Kd.R (Kd.int .i64) 3 wr2 W.heap.size (fun k => W.heap.size ≤ k) v5 c'.2.2)) (fun _ v46 _ => L.length - (intOf v46).toNat)
    case atStart => exact ⟨0, c, m1, m2, rfl, ⟨by omega⟩, HP, HC, HQL, HQ⟩
    case round =>
      clear HP HC HQL HQ hxq hxn hg0
      obtain ⟨j, c', m1', m2', rfl, HJ, HP, HC, HQL, HQ⟩ := hrel
      obtain ⟨j0, j1⟩ := HJ.out
      obtain ⟨A6, c6, e6⟩ := Kd.R_slice HQ.out
      subst e6
      have hP := HP.out
      by_cases c3 : j < (L.length : Int)
      case neg =>
        have c3b : decide (j < (L.length : Int)) = false := decide_eq_false c3
        rw [List.drop_eq_nil_of_le (by omega)] at hP
        unfold colIn at hP
        injection hP with hP
        subst hP
        have ho : colOut near m (i + 1) c' = some (st, r) := HOO.out
        have HO2 := Aside0.mk ho
        have hi2 := HMM.out.2
        clear c3 ho HP hi2
        go_wp2
        go_roundg m
        case measure => exact HMM.out.1
        case rel => exact ⟨i + 1, c', m1', m2', by go_num, HO2, ⟨by have := HMM.out.2; have := of_eq_true p0; omega⟩, HC, HQL, HQ⟩
      have c3b : decide (j < (L.length : Int)) = true := decide_eq_true c3
      obtain ⟨adl, eal, hxl⟩ := Kd.at_int (Kd.C_below HLR.out HC.out.below) j j0 c3
      subst eal
      obtain ⟨b, hb⟩ : ∃ b, b = rd L j := ⟨_, rfl⟩
      rw [← hb] at hxl
      have hdrop : L.drop j.toNat = b :: L.drop (j + 1).toNat := by
        rw [List.drop_eq_getElem_cons (show j.toNat < L.length by omega), show j.toNat + 1 = (j + 1).toNat by omega, hb]
        unfold rd
        rw [List.getD_eq_getElem?_getD, List.getElem?_eq_getElem (show j.toNat < L.length by omega), Option.getD_some]
      rw [hdrop] at hP
      unfold colIn at hP
      by_cases c4 : 0 ≤ b ∧ b ≤ 1000 ∧ c'.2.2.length ≤ 1000
      case neg => rw [if_neg c4] at hP; cases hP
      rw [if_pos c4] at hP
      obtain ⟨b0, b1, b2⟩ := c4
      have pj := eq_true j0
      have qj := eq_true c3
      have hg1 : wr.cell? ⟨g, 1, none⟩ = some (.map (some bs)) := (blk_cell HC.out.blk 1).trans rfl
      have hlkb := stacks_lookOk HC.out.side b0 b1
      obtain ⟨sa, hsa⟩ : ∃ sa, sa = (c'.1 a).getD 0 := ⟨_, rfl⟩
      have hlka := stacks_look HC.out.side HA.out.1 HA.out.2
      rw [← hsa] at hlka
      have HJ2 := Aside0.mk (show 0 ≤ j + 1 ∧ j + 1 ≤ L.length by omega)
      have hjw : wrap64 (j + 1) = j + 1 := by have := HML.out; unfold wrap64; omega
      cases hsd : c'.1 b with
      | some sb =>
        rw [hsd] at hlkb hP
        simp only [Option.getD_some, Option.isSome_some] at hlkb hP
        rw [← hsa] at hP
        by_cases ce : sb = sa
        · rw [if_pos ce] at hP
          injection hP with hP
          subst hP
          have ceb : (sb == sa) = true := beq_iff_eq.mpr ce
          have ho : some (c', some (a, b)) = some (st, r) := HOO.out
          injection ho with ho
          injection ho with e1 e2
          subst e1; subst e2
          obtain ⟨cc, hcc⟩ := HCL.out a b rfl
          have HCA := Aside0.mk (close_fn.calls k c'.2.1 wc wr g bs bf m2' a b cc _ vc HC.out.blk HGG.out.2.2.2.1 HC.out.below HC.out.frm hcc)
          have HCC := Aside0.mk hcc
          have HCH := Aside0.mk HC.out.below.size
          clear hdrop hb hsd hsa ce c3 j1 b0 b1 b2 HP HQ hcc
          go_wp2_with (go_at_call 80; go_must ((with_reducible refine HCA.out.mono ?_); rintro e w3 ⟨rfl, vc', hv1, hv2, hv3⟩; have HV1 := Aside0.mk hv1; have HV2 := Aside0.mk hv2; have HV3 := Aside0.mk hv3; clear hv1 hv2 hv3))
          go_ret
          exact ⟨rfl, fun h => (by cases h), fun a' b' h => (by injection h with h; injection h with h1 h2; subst h1; subst h2; exact ⟨cc, vc', HCC.out, HV1.out, Kd.R_lower HV2.out HCH.out⟩), HV3.out⟩
        · rw [if_neg ce] at hP
          have ceb : (sb == sa) = false := beq_eq_false_iff_ne.mpr ce
          have HP2 := Aside0.mk hP
          clear hdrop hb hsd hsa ce c3 j1 b0 b1 b2 HP hP
          go_wp2
          go_roundw
          case rel => exact ⟨j + 1, c', m1', m2', by go_num, HJ2, HP2, HC, HQL, HQ⟩
          case measure => have := of_eq_true qj; have := of_eq_true pj; simp [intOf, hjw]; omega
      | none =>
        rw [hsd] at hlkb hP
        simp only [Option.getD_none, Option.isSome_none] at hlkb hP
        by_cases c5' : c'.2.1 b = none ∧ a ≠ b
        case neg => rw [if_neg c5'] at hP; cases hP
        rw [if_pos c5', ← hsa] at hP
        obtain ⟨hfb, hab⟩ := c5'
        obtain ⟨u, hu⟩ : ∃ u, u = wrap64 (1 - sa) := ⟨_, rfl⟩
        have hwu : IntKind.i64.wrap (1 - sa) = u := by rw [hu, i64_w]
        rw [← hu] at hP
        have hM2 := HM2.out
        have hql := HQL.out
        have hc1 := HC.out.ms_le
        have hc2 := HC.out.mf_le
        have hml : (1100000 : Nat) < maxLen := by decide
        obtain ⟨hwc0, hwc1, hwc2, hwc3, hwc4, hwc5⟩ := HGG.out
        obtain ⟨hne0, hne1, hne2⟩ := HNE.out
        obtain ⟨t1, t2, W1, W2, W3, W4, hE⟩ := col_entries HC.out.side HC.out.frm hne0 hwc4 hwc5 b0 b1 hsd hfb (by omega) (by omega) u a
        have hcg : W.heap.size ≤ wr.heap.size := HC.out.chg.1
        have hE1d : (Instr.mapEntry 80 (.map (some bs)) (.int .i64 b)).run Try.prog wr.drew = .ok (.tuple #[.int .i64 0, .int .i64 (t1 1)]) (W1 1) := (hE 1).1
        have hE2 := (hE 1).2.1
        have hE3 := (hE 1).2.2.1
        have hE4 := (hE 1).2.2.2.1
        have hlkd : (Instr.lookup 80 (.map (some bs)) (.int .i64 a) false).run Try.prog wr.drew = .ok (.int .i64 sa) wr.drew := by
          have := stacks_look (HC.out.side.drewN 1) HA.out.1 HA.out.2
          rw [← hsa] at this
          exact this
        have hlk1 : (Instr.lookup 80 (.map (some bs)) (.int .i64 a) false).run Try.prog (W1 1) = .ok (.int .i64 sa) (W1 1) := by
          have := stacks_look (hE 1).2.2.2.2.1 HA.out.1 HA.out.2
          rw [show (put_ c'.1 b 0 a) = c'.1 a from if_neg hab, ← hsa] at this
          exact this
        have sg : ∀ W' : World, W'.heap[g]? = wr.heap[g]? → W'.cell? ⟨g, 1, none⟩ = some (.map (some bs)) ∧ W'.cell? ⟨g, 2, none⟩ = some (.map (some bf)) := fun W' e => ⟨(blk_cell (e.trans HC.out.blk) 1).trans rfl, (blk_cell (e.trans HC.out.blk) 2).trans rfl⟩
        have hz3 := (hE 1).2.2.2.2.2.2.2.1
        have hS1 := sg _ (hz3 g (by omega) hne1.symm hne2.symm).1
        have hS2 := sg _ (hz3 g (by omega) hne1.symm hne2.symm).2.1
        have hS3 := sg _ (hz3 g (by omega) hne1.symm hne2.symm).2.2.1
        have hS4 := sg _ (hz3 g (by omega) hne1.symm hne2.symm).2.2.2
        have HS := Aside0.mk (And.intro (sg wr.drew rfl) (And.intro hS1 (And.intro hS2 (And.intro hS3 hS4))))
        have hz4 := (hE 1).2.2.2.2.2.2.2.2.1
        have hz5 := (hE 1).2.2.2.2.2.2.2.2.2
        have hQ4 := Kd.R_step HQ.out (fun k ok hk => (hz3 k hk (by omega) (by omega)).2.2.2)
        obtain ⟨v6, w6, hrun, ho6, hB6, hgr6, _⟩ := append_one (Kd.int .i64) (P := Try.prog) (w0 := W4 1) (W := W4 1) W.heap.size 22 22 3 (.int .i64 0) 8 Try.underlying22 info3 rfl (by decide) (by omega) (v := .slice A6 c'.2.2.length c6) (xs := c'.2.2) b [.int .i64 b] (ok := fun k => W.heap.size ≤ k) (fun _ => False) rfl (fun _ h => h.elim) (fun k hk => by omega) hQ4 (Below.refl _ _) (by omega) (by omega)
        have hC6 : ColAt wc W w6 g bs bf (.slice (some adn) near.length cn) vc (put_ c'.1 b u, put_ c'.2.1 b a, c'.2.2 ++ [b]) (m1' + 1) (m2' + 1) M :=
          ⟨(hB6.block g hwc0).trans ((hz3 g (by omega) hne1.symm hne2.symm).2.2.2.trans HC.out.blk), (hE 1).2.2.2.2.2.1.block (hB6.block bs hwc1), (hE 1).2.2.2.2.2.2.1.block (hB6.block bf hwc2), by simp; omega, by simp; omega,
            (HC.out.below.trans hz5).trans (hB6.mono (by omega)), ⟨by have := hB6.size; omega, fun k hk n1 n2 n3 => (hB6.block k hk).trans ((hz3 k (by omega) n1 n2).2.2.2.trans (HC.out.chg.2 k hk n1 n2 n3))⟩⟩
        have HRUN := Aside0.mk hrun
        have HC6 := Aside0.mk hC6
        have HQ6 := Aside0.mk ho6
        have HP2 := Aside0.mk hP
        have HQL2 := Aside0.mk (show (c'.2.2 ++ [b]).length ≤ 1001 by simp; omega)
        clear hE hrun hC6 ho6 hB6 hgr6 hQ4 hz3 hz4 hz5 hS1 hS2 hS3 hS4 sg hP hM2 hql hc1 hc2 hml hwc0 hwc1 hwc2 hwc3 hwc4 hwc5 hne0 hne1 hne2 hcg hdrop hb hsd hsa hu hfb hab c3 j1 b0 b1 b2 HP HC HQ HQL
        go_wp2
        go_region_held_law (fun W' => W'.cell? ⟨g, 1, none⟩ = some (.map (some bs)) ∧ W'.cell? ⟨g, 2, none⟩ = some (.map (some bf)))
          ((first | exact HS.out.1 | exact HS.out.2.1 | exact HS.out.2.2.1 | exact HS.out.2.2.2.1 | exact HS.out.2.2.2.2))
          (fail)
        all_goals (
          go_wp2_with (at_builtin; go_must (refine wpList_appendRun _ rfl _ _ _ rfl HRUN.out rfl rfl rfl ?_))
          go_roundw
          case rel => exact ⟨j + 1, _, m1' + 1, m2' + 1, by go_num, HJ2, HP2, HC6, HQL2, HQ6⟩
          case measure => have := of_eq_true qj; have := of_eq_true pj; simp [intOf, hjw]; omega)

def shunt_Stacks.f (k : Nat) (l0 : List Int) : Option (List Int × List Int × Int) :=
  if isOrderB l0 = true then
    (shunt_conflicts.f k l0).bind fun near => (stacksGo (slices_Reverse_int_int.f k) near l0.length 0 (fun _ => none) (fun _ => none) []).bind fun p => some (p.1, p.2, 0)
  else some ([], [], 2)
theorem closeF_le (k : Nat) (fr : Int → Option Int) (a b : Int) : LeO (closeF (slices_Reverse_int_int.f k) fr a b) (closeF (slices_Reverse_int_int.f (k + 1)) fr a b) := by
  unfold closeF
  refine LeO.bind (LeO.refl _) (fun p => LeO.bind (LeO.refl _) (fun q => LeO.bind (slices_Reverse_int_int.mono _ _) (fun _ => LeO.refl _)))
theorem stacksGo_le (k : Nat) (near : List (List Int)) : ∀ (m : Nat) (i : Int) (sd fr : Int → Option Int) (acc : List Int), LeO (stacksGo (slices_Reverse_int_int.f k) near m i sd fr acc) (stacksGo (slices_Reverse_int_int.f (k + 1)) near m i sd fr acc)
  | 0, _, _, _, _ => LeO.refl _
  | m + 1, i, sd, fr, acc => by
    unfold stacksGo
    cases sd i with
    | some s => exact stacksGo_le k near m _ _ _ _
    | none =>
      refine LeO.bind (LeO.refl _) (fun p => ?_)
      rcases p with ⟨st, r⟩
      cases r with
      | none => exact stacksGo_le k near m _ _ _ _
      | some ab =>
        rcases ab with ⟨a, b⟩
        exact LeO.bind (closeF_le k _ a b) (fun _ => LeO.refl _)
theorem shunt_Stacks.mono : ∀ a0 k, LeO (shunt_Stacks.f k a0) (shunt_Stacks.f (k + 1) a0) := by
  intro a0 k
  unfold shunt_Stacks.f
  refine LeO.ite (LeO.bind (shunt_conflicts.mono _ _) (fun near => LeO.bind (stacksGo_le k near _ _ _ _ _) (fun _ => LeO.refl _))) (LeO.refl _)

set_option maxHeartbeats 4000000 in
set_option maxRecDepth 100000 in
theorem shunt_Stacks.calls (k : Nat) (A0 : Option Addr) (c0 : Nat) (l0 : List Int) (r1 : List Int) (r2 : List Int) (r3 : Int) (w : World) (hr0 : Kd.C (Kd.int .i64) w A0 l0.length l0) (hc0 : l0.length ≤ c0) (h : shunt_Stacks.f k l0 = some (r1, r2, r3)) :
    Calls Try.prog 48 #[.slice A0 l0.length c0] w fun e w' => ∃ v0_ v1_ : Value, e = .returned (.tuple #[v0_, v1_, .int .i64 r3]) ∧ Kd.R (Kd.int .i64) 3 w' w.heap.size (fun k_ => some k_ ≠ (v1_ : Value).ownBlock) v0_ r1 ∧ Kd.R (Kd.int .i64) 3 w' w.heap.size (fun k_ => some k_ ≠ (v0_ : Value).ownBlock) v1_ r2 ∧ Below w.heap.size w w' := by
  have HR0 := Aside0.mk hr0
  have HC0 := Aside0.mk hc0
  clear hr0 hc0
  unfold shunt_Stacks.f at h
  cases hord : isOrderB l0 with
  | false =>
    rw [hord, if_neg (by decide)] at h
    injection h with h
    injection h with e1 e2
    injection e2 with e2 e3
    subst e1; subst e2; subst e3
    have HO := Aside0.mk (shunt_isOrder.calls A0 c0 l0 false w HR0.out HC0.out (by unfold shunt_isOrder.f; rw [hord]))
    clear hord
    go_enter Try.func48, Try.ntmps48
    go_wp2_with (go_at_call 52; go_must ((with_reducible refine HO.out.mono ?_); rintro e w1 ⟨rfl, hb1⟩; have HB1 := Aside0.mk hb1; clear hb1))
    go_ret3
    exact ⟨_, _, rfl, Kd.R_nil _ _ _ _ _, Kd.R_nil _ _ _ _ _, HB1.out⟩
  | true =>
    rw [hord, if_pos rfl] at h
    have HO := Aside0.mk (shunt_isOrder.calls A0 c0 l0 true w HR0.out HC0.out (by unfold shunt_isOrder.f; rw [hord]))
    have hl60 : l0.length ≤ 60 := by
      unfold isOrderB at hord
      simp at hord
      exact hord.1
    replace h := Option.bind_eq_some_iff.mp h
    obtain ⟨near, hnear, h⟩ := h
    replace h := Option.bind_eq_some_iff.mp h
    obtain ⟨⟨p1, p2⟩, hgo, h⟩ := h
    injection h with h
    injection h with e1 e2
    injection e2 with e2 e3
    subst e1; subst e2; subst e3
    have HCF := Aside0.mk (fun (w1 : World) (h1 : Below w.heap.size w w1) => shunt_conflicts.calls k A0 c0 l0 near w1 (Kd.C_below HR0.out h1) HC0.out hnear)
    have HGO := Aside0.mk hgo
    have HL := Aside0.mk hl60
    have hmm := @run_makeMap Try.prog
    clear hord hnear hgo hl60
    go_enter Try.func48, Try.ntmps48
    go_wp2_with (first | (go_at_call 52; go_must ((with_reducible refine HO.out.mono ?_); rintro e w1 ⟨rfl, hb1⟩; have HB1 := Aside0.mk hb1; clear hb1)) | (go_at_call 74; go_must ((with_reducible refine (HCF.out _ HB1.out).mono ?_); rintro e w2 ⟨vn, rfl, hS2, hB2⟩; obtain ⟨An, cn, e2⟩ := Kd.S_slice hS2; subst e2; have HN := Aside0.mk (Kd.S_reads' hS2).2.2; have HB2 := Aside0.mk (below_step HB1.out hB2); clear hS2 hB2)))
    obtain ⟨bs, hbs⟩ : ∃ bs, bs = w2.heap.size := ⟨_, rfl⟩
    obtain ⟨bf, hbf⟩ : ∃ bf, bf = w2.heap.size + 1 := ⟨_, rfl⟩
    obtain ⟨g, hg⟩ : ∃ g, g = w2.heap.size + 1 + 1 := ⟨_, rfl⟩
    obtain ⟨w3, hw3⟩ : ∃ w3, w3 = (((w2.alloc (.map #[] 0)).alloc (.map #[] 0)).alloc (.cells #[.slice An near.length cn, .map (some bs), .map (some bf), .slice none 0 0] 91)) := ⟨_, rfl⟩
    have hm0 : MapAt w3 Try.prog 3 bs 0 (encO fun _ => none) := by
      rw [hw3, hbs]
      exact (((MapAt.made w2 Try.prog 3).congr (fun kv kl _ => by unfold encO encI; split <;> rfl)).alloc _).alloc _
    have hm1 : MapAt w3 Try.prog 3 bf 0 (encO fun _ => none) := by
      have h5 : ∀ o, MapAt (((w2.alloc (.map #[] 0)).alloc (.map #[] 0)).alloc o) Try.prog 3 (w2.heap.size + 1) 0 (encO fun _ => none) := fun o => by
        simpa using (((MapAt.made (w2.alloc (.map #[] 0)) Try.prog 3).congr (g := encO fun _ => none) (fun kv kl _ => by unfold encO encI; split <;> rfl)).alloc o)
      have h6 := h5 (.cells #[.slice An near.length cn, .map (some bs), .map (some bf), .slice none 0 0] 91)
      rw [← hbf] at h6
      rw [hw3]
      exact h6
    have hgb : w3.heap[g]? = some (.cells #[.slice An near.length cn, .map (some bs), .map (some bf), .slice none 0 0] 91 (0, 0)) := by
      rw [hw3, hg]
      simpa using heap_alloc_new ((w2.alloc (.map #[] 0)).alloc (.map #[] 0)) (.cells #[.slice An near.length cn, .map (some bs), .map (some bf), .slice none 0 0] 91)
    have hbw3 : Below w2.heap.size w2 w3 := by rw [hw3]; exact below_alloc (below_alloc (below_alloc (Below.refl _ _) _) _) _
    have hsz3 : w3.heap.size = w2.heap.size + 3 := by rw [hw3]; simp
    have HIX := Aside0.mk (show bs = w2.heap.size ∧ bf = w2.heap.size + 1 ∧ g = w2.heap.size + 2 ∧ w3.heap.size = w2.heap.size + 3 from ⟨hbs, hbf, hg, hsz3⟩)
    have HM0 := Aside0.mk hm0
    have HM1 := Aside0.mk hm1
    have HGB := Aside0.mk hgb
    have HBW3 := Aside0.mk hbw3
    rw [← hg, ← hbf, ← hbs, ← hw3]
    clear hm0 hm1 hgb hbw3 hsz3 hw3 hbs hbf hg
    go_loopg [6, 21] l0.length (fun kq v6 v21 wr => ∃ (i : Int) (sd fr : Int → Option Int) (acc : List Int) (ms mf : Nat), v21 = .int .i64 i ∧ Aside0 (0 ≤ i ∧ i + kq = l0.length ∧ acc.length ≤ 1000 - kq) ∧ Aside0 (stacksGo (slices_Reverse_int_int.f k) near kq i sd fr acc = some (p1, p2)) ∧ Aside0 (wr.heap[g]? = some (.cells #[.slice An near.length cn, .map (some bs), .map (some bf), .slice none 0 0] 91 (0, 0))) ∧ Aside0 (MapAt wr Try.prog 3 bs ms (encO sd)) ∧ Aside0 (MapAt wr Try.prog 3 bf mf (encO fr)) ∧ Aside0 ((ms : Int) ≤ 2000 * i ∧ (mf : Int) ≤ 2000 * i) ∧ Aside0 (Kd.R (Kd.int .i64) 3 wr w2.heap.size (fun k => k ≠ bs ∧ k ≠ bf ∧ k ≠ g) v6 acc) ∧ Aside0 (Below w2.heap.size w2 wr ∧ w3.heap.size ≤ wr.heap.size))
    case atStart => exact ⟨0, _, _, [], 0, 0, rfl, ⟨by have := HL.out; simp <;> omega⟩, HGO, HGB, HM0, HM1, ⟨by omega⟩, ⟨Kd.R_mono (Kd.R_nil _ _ _ _ (fun _ => False)) (fun _ h => h.elim)⟩, ⟨⟨HBW3.out, Nat.le_refl _⟩⟩⟩
    case round =>
      clear HGO HGB HM0 HM1 HBW3
      obtain ⟨i, sd, fr, acc, ms, mf, rfl, HI, HG, HGB, HS, HF, HMM, HR, HBW⟩ := hrel
      obtain ⟨i0, i1, i2⟩ := HI.out
      obtain ⟨A6, c6, e6⟩ := Kd.R_slice HR.out
      subst e6
      have hl60 := HL.out
      have hgo := HG.out
      have hbz := HBW.out.2
      by_cases c1 : i < (l0.length : Int)
      case neg =>
        have hk0 : gk = 0 := by omega
        rw [hk0] at hgo
        unfold stacksGo at hgo
        injection hgo with hgo
        injection hgo with e1 e2
        subst e1; subst e2
        have c1b : decide (i < (l0.length : Int)) = false := decide_eq_false c1
        clear c1 i0 i1 i2 HI HG hk0 hl60 hbz
        go_wp2
        go_ret3
        exact ⟨_, _, rfl, Kd.R_lower (Kd.R_mono HR.out (fun k _ => by simp [Value.ownBlock])) HB2.out.size, Kd.R_nil _ _ _ _ _, below_step HB2.out HBW.out.1⟩
      have c1b : decide (i < (l0.length : Int)) = true := decide_eq_true c1
      obtain ⟨m, hm⟩ : ∃ m, gk = m + 1 := ⟨gk - 1, by omega⟩
      rw [hm] at hgo
      unfold stacksGo at hgo
      have hi1000 : i ≤ 1000 := by omega
      have hg1 : wr.cell? ⟨g, 1, none⟩ = some (.map (some bs)) := (blk_cell HGB.out 1).trans rfl
      have hlk := stacks_lookOk HS.out i0 hi1000
      have HI2 := Aside0.mk (show 0 ≤ i + 1 ∧ i + 1 + m = l0.length ∧ m < gk by omega)
      obtain ⟨jx1, jx2, jx3, jx4⟩ := HIX.out
      cases hsd : sd i with
      | some sb =>
        rw [hsd] at hlk hgo
        simp only [Option.getD_some, Option.isSome_some] at hlk hgo
        have hlk2 := stacks_look HS.out i0 hi1000
        rw [hsd] at hlk2
        simp only [Option.getD_some] at hlk2
        obtain ⟨v7, w7, hrun, ho7, hB7, hgr7, _⟩ := append_one (Kd.int .i64) (P := Try.prog) (w0 := w2) (W := wr) w2.heap.size 22 22 3 (.int .i64 0) 8 Try.underlying22 info3 rfl (by decide) (by omega) (v := .slice A6 acc.length c6) (xs := acc) sb [.int .i64 sb] (ok := fun k => k ≠ bs ∧ k ≠ bf ∧ k ≠ g) (fun _ => False) rfl (fun _ h => h.elim) (fun k hk => by omega) HR.out HBW.out.1 HBW.out.1.size (by omega)
        have hne : some g ≠ (Value.slice A6 acc.length c6).ownBlock := Kd.R_ne HR.out HGB.out (by decide)
        have hob : ∀ b : Nat, b = bs ∨ b = bf → some b ≠ (Value.slice A6 acc.length c6).ownBlock := fun b hb he => by
          have := HR.out.1 b he.symm
          omega
        have HS7 := Aside0.mk (HS.out.kept hgr7 (hob bs (.inl rfl)))
        have HF7 := Aside0.mk (HF.out.kept hgr7 (hob bf (.inr rfl)))
        have HG7 := Aside0.mk (blk_grown HGB.out hgr7 hne)
        have HB7 := Aside0.mk (show Below w2.heap.size w2 w7 ∧ w3.heap.size ≤ w7.heap.size from ⟨hB7, by have := hgr7.size; omega⟩)
        have HRUN := Aside0.mk hrun
        have HO7 := Aside0.mk ho7
        have HGG := Aside0.mk hgo
        have HMM2 := Aside0.mk (show (ms : Int) ≤ 2000 * (i + 1) ∧ (mf : Int) ≤ 2000 * (i + 1) by have := HMM.out; omega)
        have HI3 := Aside0.mk (show 0 ≤ i + 1 ∧ i + 1 + m = l0.length ∧ (acc ++ [sb]).length ≤ 1000 - m by simp; omega)
        clear hrun ho7 hB7 hgr7 hne hob hgo hsd c1 i1 i2 HI HG hm hl60 hbz HGB HS HF HMM HR HBW jx1 jx2 jx3 jx4
        go_wp2_with (at_builtin; go_must (refine wpList_appendRun _ rfl _ _ _ rfl HRUN.out rfl rfl rfl ?_))
        go_roundg m
        case measure => exact HI2.out.2.2
        case rel => exact ⟨i + 1, sd, fr, acc ++ [sb], ms, mf, by go_num, HI3, HGG, HG7, HS7, HF7, HMM2, HO7, HB7⟩
      | none =>
        rw [hsd] at hlk hgo
        simp only [Option.getD_none, Option.isSome_none] at hlk hgo
        replace hgo := Option.bind_eq_some_iff.mp hgo
        obtain ⟨⟨st, r⟩, hv, hgo⟩ := hgo
        have hclo : ∀ a b, r = some (a, b) → ∃ c, closeF (slices_Reverse_int_int.f k) st.2.1 a b = some c ∧ p1 = [] ∧ p2 = c := by
          intro a b hr
          subst hr
          obtain ⟨c, hc, hp⟩ := Option.bind_eq_some_iff.mp hgo
          injection hp with hp
          injection hp with h1 h2
          exact ⟨c, hc, h1.symm, h2.symm⟩
        have hmi : ms ≤ 2000 * i.toNat ∧ mf ≤ 2000 * i.toNat := by have := HMM.out; omega
        have HVI := Aside0.mk (visit_fn.calls k near An cn w2 wr g bs bf ms mf (2000 * i.toNat) sd fr i (.slice none 0 0) st r HN.out HGB.out (by omega) (by omega) (by omega) (by omega) HS.out HF.out hmi (by omega) HBW.out.1 hv (fun a b hr => by obtain ⟨c, hc, _⟩ := hclo a b hr; exact ⟨c, hc⟩))
        have HRC := Aside0.mk (fun (w4 : World) (hc : Chg wr w4 g bs bf) => Kd.R_step HR.out (fun k ok hk => hc.2 k hk ok.1 ok.2.1 ok.2.2))
        have hacc : acc.length ≤ 1000 := by omega
        have hidx : bs < w3.heap.size ∧ bf < w3.heap.size ∧ g < w3.heap.size := by omega
        have HW3 := Aside0.mk hbz
        cases r with
        | some ab =>
          obtain ⟨a, b⟩ := ab
          obtain ⟨c, hc, hp1, hp2⟩ := hclo a b rfl
          subst hp1
          subst hp2
          have HCL := Aside0.mk hc
          clear hgo hv hclo hc hmi hsd c1 i1 i2 HI HG hm hl60 hbz jx1 jx2 jx3 jx4 hacc hidx
          go_wp2_with (go_at_call 75; go_must ((with_reducible refine HVI.out.mono ?_); rintro e w4 ⟨rfl, _, hA, hB4⟩; obtain ⟨c', vc', h1, h2, h3⟩ := hA a b rfl; have h1' := HCL.out.symm.trans h1; injection h1' with h1'; subst h1'; have HA2 := Aside0.mk h3; have HB4 := Aside0.mk hB4; clear hA h1 h3 hB4))
          repeat (go_quiet (fail); try go_wp2)
          go_ret3
          exact ⟨_, _, rfl, Kd.R_nil _ _ _ _ _, Kd.R_lower (Kd.R_mono (by first | exact HA2.out | exact Kd.R_drewN HA2.out _) (fun k _ => by simp [Value.ownBlock])) HB2.out.size, below_step HB2.out (by first | exact HB4.out | exact pw_below_drewN HB4.out _)⟩
        | none =>
          have HNX := Aside0.mk (fun (w4 : World) (ms' mf' : Nat) (q1 : ms' ≤ 2000 * i.toNat + 2000) (q2 : mf' ≤ 2000 * i.toNat + 2000) (q3 : w4.heap[g]? = some (.cells #[.slice An near.length cn, .map (some bs), .map (some bf), .slice none 0 0] 91 (0, 0))) (q4 : MapAt w4 Try.prog 3 bs ms' (encO st.1)) (q5 : MapAt w4 Try.prog 3 bf mf' (encO st.2.1)) (q6 : Chg wr w4 g bs bf) (q7 : Below w2.heap.size w2 w4) =>
            show w4.cell? ⟨g, 1, none⟩ = some (.map (some bs)) ∧ (Instr.lookup 80 (.map (some bs)) (.int .i64 i) false).run Try.prog w4 = .ok (.int .i64 ((st.1 i).getD 0)) w4 ∧
              ∃ v7 w7, (Builtin.append_ #[22, 22] 22 #[.slice A6 acc.length c6, .slice (some ⟨w4.heap.size, 0, none⟩) 1 1]).run Try.prog (w4.alloc (.cells #[.int .i64 ((st.1 i).getD 0)] 3)) = .ok v7 w7 ∧
                w7.heap[g]? = some (.cells #[.slice An near.length cn, .map (some bs), .map (some bf), .slice none 0 0] 91 (0, 0)) ∧ MapAt w7 Try.prog 3 bs ms' (encO st.1) ∧ MapAt w7 Try.prog 3 bf mf' (encO st.2.1) ∧ ((ms' : Int) ≤ 2000 * (i + 1) ∧ (mf' : Int) ≤ 2000 * (i + 1)) ∧
                Kd.R (Kd.int .i64) 3 w7 w2.heap.size (fun k => k ≠ bs ∧ k ≠ bf ∧ k ≠ g) v7 (acc ++ [(st.1 i).getD 0]) ∧ (Below w2.heap.size w2 w7 ∧ w3.heap.size ≤ w7.heap.size) from by
            have hr4 := HRC.out w4 q6
            have hz4 : w3.heap.size ≤ w4.heap.size := by have := q6.1; omega
            obtain ⟨v7, w7, hrun, ho7, hB7, hgr7, _⟩ := append_one (Kd.int .i64) (P := Try.prog) (w0 := w2) (W := w4) w2.heap.size 22 22 3 (.int .i64 0) 8 Try.underlying22 info3 rfl (by decide) (by omega) (v := .slice A6 acc.length c6) (xs := acc) ((st.1 i).getD 0) [.int .i64 ((st.1 i).getD 0)] (ok := fun k => k ≠ bs ∧ k ≠ bf ∧ k ≠ g) (fun _ => False) rfl (fun _ h => h.elim) (fun k hk => by omega) hr4 q7 q7.size (by omega)
            have hne : some g ≠ (Value.slice A6 acc.length c6).ownBlock := Kd.R_ne hr4 q3 (by decide)
            have hob : ∀ b : Nat, b = bs ∨ b = bf → some b ≠ (Value.slice A6 acc.length c6).ownBlock := fun b hb he => by
              have := hr4.1 b he.symm
              omega
            exact ⟨(blk_cell q3 1).trans rfl, stacks_look q4 i0 hi1000, v7, w7, hrun, blk_grown q3 hgr7 hne, q4.kept hgr7 (hob bs (.inl rfl)), q5.kept hgr7 (hob bf (.inr rfl)), by omega, ho7, hB7, by have := hgr7.size; omega⟩)
          have HGG := Aside0.mk (show stacksGo (slices_Reverse_int_int.f k) near m (i + 1) st.1 st.2.1 (acc ++ [(st.1 i).getD 0]) = some (p1, p2) from hgo)
          have HI3 := Aside0.mk (show 0 ≤ i + 1 ∧ i + 1 + m = l0.length ∧ (acc ++ [(st.1 i).getD 0]).length ≤ 1000 - m by simp; omega)
          clear hgo hv hclo hmi hsd c1 i1 i2 HI HG hm hl60 hbz jx1 jx2 jx3 jx4 hacc hidx
          go_wp2_with (first | (at_builtin; go_must (refine wpList_appendRun _ rfl _ _ _ rfl HRUN.out rfl rfl rfl ?_)) | (go_at_call 75; go_must ((with_reducible refine HVI.out.mono ?_); rintro e w4 ⟨rfl, hA, _, hB4⟩; obtain ⟨ms', mf', q1, q2, q3, q4, q5, q6⟩ := hA rfl; obtain ⟨hg4, hlk4, v7, w7, hrun, f1, f2, f3, f4, f5, f6⟩ := HNX.out w4 ms' mf' q1 q2 q3 q4 q5 q6 hB4; have HRUN := Aside0.mk hrun; have F1 := Aside0.mk f1; have F2 := Aside0.mk f2; have F3 := Aside0.mk f3; have F4 := Aside0.mk f4; have F5 := Aside0.mk f5; have F6 := Aside0.mk f6; clear hA hB4 q1 q2 q3 q4 q5 q6 hrun f1 f2 f3 f4 f5 f6)))
          go_roundg m
          case measure => exact HI2.out.2.2
          case rel => exact ⟨i + 1, st.1, st.2.1, acc ++ [(st.1 i).getD 0], ms', mf', by go_num, HI3, HGG, F1, F2, F3, F4, F5, F6⟩


end Go.Proofs.Ytjbjongahnocdaa.S

namespace Go.Proofs.Ytjbjongahnocdaa.S
open Go.Proofs.Ytjbjongahnocdaa.Lib
open Go.Proofs.Ytjbjongahnocdaa.Defs
open Go.Maps (Keyed)
open Go.RowKit Go.Proofs.YtjbjongahnocdaaW.PrintWords Go.Proofs.YtjbjongahnocdaaW.PrintLast Go.Proofs.YtjbjongahnocdaaW.PrintMore
attribute [local go_sem] max2_int min2_int max_two min_two max_three min_three max_four min_four   -- for this text's walks alone
set_option linter.unusedVariables false
set_option linter.unusedSimpArgs false

/-! ### shunt_places: function 63 -/
def plPlace (p : Int × Int) : S82 := ⟨p.1, p.2⟩
def shunt_places.f (l0 : List Int) : Option (List S82) := if l0.length ≤ 60 then some ((placesB l0).map plPlace) else none

set_option maxHeartbeats 800000 in
theorem places_fn.calls (l : List Int) (A : Option Addr) (c : Nat) (pa pb : Nat) (x k : Int) (w : World) (ha : w.cell? ⟨pa, 0, none⟩ = some (.slice A l.length c)) (hb : w.cell? ⟨pb, 0, none⟩ = some (.int .i64 x)) (hr : Kd.C (Kd.int .i64) w A l.length l) (h0 : 0 ≤ k) (h1 : k < l.length) :
    Calls Try.prog 78 #[.int .i64 k, .pointer (some ⟨pa, 0, none⟩), .pointer (some ⟨pb, 0, none⟩)] w fun e w' => e = .returned (.bool (decide (rd l k < x))) ∧ Drawn0 w w' := by
  obtain ⟨ad, ea, hx⟩ := Kd.at_int hr k h0 h1
  cases ea
  replace h0 := eq_true h0
  replace h1 := eq_true h1
  clear hr
  go_enter Try.func78, Try.ntmps78
  go_wp2
  go_quiet (fail)
  go_wp2
  go_ret
  exact ⟨rfl, by repeat (first | exact Drawn0.refl _ | apply Drawn0.step)⟩

set_option maxHeartbeats 800000 in
theorem places_index.calls (l last : List Int) (A A1 : Option Addr) (c c1 : Nat) (pa pb : Nat) (x : Int) (w : World) (ha : w.cell? ⟨pa, 0, none⟩ = some (.slice A l.length c)) (hb : w.cell? ⟨pb, 0, none⟩ = some (.int .i64 x)) (hr : Kd.C (Kd.int .i64) w A l.length l) (hr1 : Kd.C (Kd.int .i64) w A1 last.length last) (hk : ∀ k ∈ last, 0 ≤ k ∧ k < l.length) (hm : last.length ≤ 100) (r : Int) (hres : (if placeQ l last x < last.length then (placeQ l last x : Int) else -1) = r) :
    Calls Try.prog 77 #[.slice A1 last.length c1, .func (.func 78) #[] #[.pointer (some ⟨pa, 0, none⟩), .pointer (some ⟨pb, 0, none⟩)]] w fun e w' => e = .returned (.int .i64 r) ∧ Drawn0 w w' := by
  have HRES := Aside0.mk hres
  have HA := Aside0.mk ha
  have HB := Aside0.mk hb
  have HR := Aside0.mk hr
  have HR1 := Aside0.mk hr1
  have HK := Aside0.mk hk
  clear ha hb hr hr1 hk hres
  go_enter Try.func77, Try.ntmps77
  go_wp2
  go_loopw [8] (fun v8 wr => ∃ i : Int, v8 = .int .i64 i ∧ Aside0 (0 ≤ i ∧ i ≤ last.length) ∧ Aside0 (∀ j : Nat, (j : Int) < i → (hj : j < last.length) → x ≤ l.getD (last[j]).toNat 0) ∧ Drawn0 w wr) (fun v8 _ => last.length - (intOf v8).toNat)
  case atStart => exact ⟨0, rfl, ⟨by simp⟩, ⟨fun j h => by omega⟩, by repeat (first | exact Drawn0.refl _ | apply Drawn0.step)⟩
  case round =>
    obtain ⟨i, rfl, HI, HN, ⟨nd, rfl⟩⟩ := hrel
    obtain ⟨p0, p1⟩ := HI.out
    have hi100 : i ≤ 100 := by omega
    by_cases c2 : i < (last.length : Int)
    · have c2b0 : decide (i < (last.length : Int)) = true := decide_eq_true c2
      obtain ⟨ad, ea, hx⟩ := Kd.at_int HR1.out i p0 c2
      cases ea
      have hlt : i.toNat < last.length := by omega
      have hmem : rd last i ∈ last := by
        unfold rd
        rw [List.getD_eq_getElem?_getD, List.getElem?_eq_getElem hlt, Option.getD_some]
        exact List.getElem_mem hlt
      have hrd : rd last i = last[i.toNat] := by
        unfold rd
        rw [List.getD_eq_getElem?_getD, List.getElem?_eq_getElem hlt, Option.getD_some]
      obtain ⟨hk0, hk1⟩ := HK.out _ hmem
      have HC := Aside0.mk (fun n => places_fn.calls l A c pa pb x (rd last i) (w.drewN n) HA.out HB.out (Kd.C_drewN HR.out n) hk0 hk1)
      have q0 := eq_true p0
      have q1 := eq_true c2
      by_cases c3 : rd l (rd last i) < x
      · have c3b : decide (rd l (rd last i) < x) = true := decide_eq_true c3
        rw [c3b] at HC
        have hq : placeQ l last x = i.toNat := by
          unfold placeQ
          rw [List.findIdx_eq hlt]
          refine ⟨by rw [← hrd]; exact decide_eq_true c3, fun j hj => ?_⟩
          have := HN.out j (by omega) (by omega)
          exact decide_eq_false (by omega)
        have hq2 : (if placeQ l last x < last.length then (placeQ l last x : Int) else -1) = i := by rw [hq, if_pos hlt]; omega
        obtain rfl : i = r := hq2.symm.trans HRES.out
        clear hq hq2 hrd hmem hk0 hk1 c2 c3 c3b hlt p1
        go_wp2_with (go_at_call 78; go_must ((with_reducible refine (HC.out _).mono ?_); rintro e w2 ⟨rfl, ⟨nd2, rfl⟩⟩))
        go_ret
        exact ⟨rfl, by repeat (first | exact Drawn0.refl _ | apply Drawn0.step)⟩
      · have c3b : decide (rd l (rd last i) < x) = false := decide_eq_false c3
        rw [c3b] at HC
        have HN2 := Aside0.mk (show ∀ j : Nat, (j : Int) < i + 1 → (hj : j < last.length) → x ≤ l.getD (last[j]).toNat 0 from fun j hj1 hj => by
          by_cases hje : (j : Int) < i
          · exact HN.out j hje hj
          · have : j = i.toNat := by omega
            subst this
            rw [hrd] at c3
            exact Int.not_lt.mp c3)
        clear hrd hmem hk0 hk1 c2 c3 c3b hlt
        go_wp2_with (go_at_call 78; go_must ((with_reducible refine (HC.out _).mono ?_); rintro e w2 ⟨rfl, ⟨nd2, rfl⟩⟩))
        go_roundw
        case rel => exact ⟨i + 1, rfl, ⟨by have := of_eq_true q1; omega⟩, HN2, by repeat (first | exact Drawn0.refl _ | apply Drawn0.step)⟩
        case measure => have := of_eq_true q1; simp [intOf]; omega
    · have c2b0 : decide (i < (last.length : Int)) = false := decide_eq_false c2
      have hq : ¬ placeQ l last x < last.length := by
        intro hlt
        have h1 := List.findIdx_getElem (w := hlt)
        have h2 := HN.out _ (show ((placeQ l last x : Nat) : Int) < i by omega) hlt
        have h3 := of_decide_eq_true h1
        unfold placeQ at h2
        omega
      obtain rfl : -1 = r := by have := HRES.out; rw [if_neg hq] at this; exact this
      clear hq
      go_wp2
      go_ret
      exact ⟨rfl, by repeat (first | exact Drawn0.refl _ | apply Drawn0.step)⟩

theorem placeQ_le (order last : List Int) (x : Int) : placeQ order last x ≤ last.length := List.findIdx_le_length

theorem row_new {W W1 : World} {base : Nat} {ok : Nat → Prop} {v : Value} {xs : List Int} {u : Value} {ys : List S82} {ok' : Nat → Prop} {base' : Nat} (h : Kd.R (Kd.int .i64) 3 W base ok v xs) (ho : Kd.R k82 82 W base' ok' u ys) (hg : W.grownBy W1 u.ownBlock) : Kd.R (Kd.int .i64) 3 W1 base ok v xs :=
  Kd.R_grown2 h rfl hg (fun k hk he => by
    obtain ⟨inner, h1⟩ := Kd.R_own h
    obtain ⟨inner', h2⟩ := Kd.R_own ho
    obtain ⟨c1, e1⟩ := own_typed h1 k he.symm
    obtain ⟨c2, e2⟩ := own_typed h2 k hk
    rw [e1] at e2
    injection e2 with e2
    injection e2 with _ e2
    cases e2)
theorem row_new' {W W1 : World} {base : Nat} {ok : Nat → Prop} {v : Value} {xs : List Int} {u : Value} {ys : List S82} {ok' : Nat → Prop} {base' : Nat} (h : Kd.R (Kd.int .i64) 3 W base ok v xs) (ho : Kd.R k82 82 W base' ok' u ys) (hg : W.grownBy W1 v.ownBlock) : Kd.R k82 82 W1 base' ok' u ys :=
  Kd.R_grown2 ho rfl hg (fun k hk he => by
    obtain ⟨inner, h1⟩ := Kd.R_own h
    obtain ⟨inner', h2⟩ := Kd.R_own ho
    obtain ⟨c1, e1⟩ := own_typed h1 k hk
    obtain ⟨c2, e2⟩ := own_typed h2 k he.symm
    rw [e1] at e2
    injection e2 with e2
    injection e2 with _ e2
    cases e2)
theorem blk_row {W W1 : World} {base : Nat} {ok : Nat → Prop} {α : Type} {d : Kd α} {e : Nat} {v : Value} {xs : List α} (h : d.R e W base ok v xs) (hg : W.grownBy W1 v.ownBlock) {g t : Nat} {cs : Array Value} (hb : W.heap[g]? = some (.cells cs t (0, 0))) (ht : e ≠ t) : W1.heap[g]? = some (.cells cs t (0, 0)) :=
  blk_grown hb hg (Kd.R_ne h hb ht)

/-- The end of a round: the item's position is stored, the place is appended. -/
theorem places_tail {w W : World} {g1 n c gp q : Nat} {x bf : Int} {u3 : Value} {l0 last : List Int} {out : List (Int × Int)} {A0 : Option Addr} {c0 : Nat}
    (F1 : Kd.R (Kd.int .i64) 3 W w.heap.size (fun _ => True) (.slice (some ⟨g1, 0, none⟩) n c) last) (hq : q < last.length) (F2 : Kd.R k82 82 W w.heap.size (fun _ => True) u3 (out.map plPlace))
    (F3 : W.heap[w.heap.size]? = some (.cells #[.slice A0 l0.length c0] 22 (0, 0))) (F4 : W.heap[gp]? = some (.cells #[.int .i64 q, .int .i64 bf] 82 (0, 0))) (F5 : Below w.heap.size w W) (hout : out.length ≤ 1000) :
    ∃ v9 w9, (∃ old, W.cell? ⟨g1, q, none⟩ = some (.int .i64 old)) ∧ W.frozen? ⟨g1, q, none⟩ = false ∧ (W.setCell ⟨g1, q, none⟩ (.int .i64 x)).heap[gp]? = some (.cells #[.int .i64 q, .int .i64 bf] 82 (0, 0)) ∧
      (Builtin.append_ #[76, 76] 76 #[u3, .slice (some ⟨(W.setCell ⟨g1, q, none⟩ (.int .i64 x)).heap.size, 0, none⟩) 1 1]).run Try.prog ((W.setCell ⟨g1, q, none⟩ (.int .i64 x)).alloc (.cells #[.int .i64 q, .int .i64 bf] 82)) = .ok v9 w9 ∧
      Kd.R k82 82 w9 w.heap.size (fun _ => True) v9 ((out ++ [((q : Int), bf)]).map plPlace) ∧ Kd.R (Kd.int .i64) 3 w9 w.heap.size (fun _ => True) (.slice (some ⟨g1, 0, none⟩) n c) (last.set q x) ∧ w9.heap[w.heap.size]? = some (.cells #[.slice A0 l0.length c0] 22 (0, 0)) ∧ Below w.heap.size w w9 := by
  obtain ⟨hc, hf⟩ := Kd.R_celln (0 : Int) F1 (q : Int) (by omega) (by have := (Kd.R_reads' F1).1; omega)
  have hs := Kd.R_putg F1 (q : Int) x
  rw [show ((q : Int)).toNat = q by omega] at hc hf hs
  obtain ⟨S1, hgr⟩ := hs
  have F2' := row_new' F1 F2 hgr
  have F3' := blk_row F1 hgr F3 (by decide)
  have F4' := blk_row F1 hgr F4 (by decide)
  have hge : w.heap.size ≤ g1 := by
    obtain ⟨inner, h1⟩ := Kd.R_own F1
    exact own_base h1 g1 (by simp [Value.ownBlock])
  have F5' : Below w.heap.size w (W.setCell ⟨g1, q, none⟩ (.int .i64 x)) := F5.setCell hge _
  obtain ⟨v9, w9, hrun, ho, hB, hg9, _⟩ := append_one k82 (P := Try.prog) (w0 := w) (W := W.setCell ⟨g1, q, none⟩ (.int .i64 x)) w.heap.size 76 76 82 (.agg #[.int .i64 0, .int .i64 0]) 16 Try.underlying76 info82 rfl (by decide) (by omega) (v := u3) (xs := out.map plPlace) (plPlace ((q : Int), bf)) [.int .i64 q, .int .i64 bf] (ok := fun _ => True) (fun _ => False) (k82_mkM _ _ _ _) (fun _ h => h.elim) (fun k hk => trivial) F2' F5' F5'.size (by simp; omega)
  refine ⟨v9, w9, ⟨_, hc⟩, hf, F4', hrun, by rw [List.map_append]; exact ho, row_new S1 F2' hg9, ?_, hB⟩
  exact blk_grown F3' hg9 (Kd.R_ne F2' F3' (by decide))

set_option maxHeartbeats 4000000 in
set_option maxRecDepth 100000 in
theorem shunt_places.calls (A0 : Option Addr) (c0 : Nat) (l0 : List Int) (r : List S82) (w : World) (hr0 : Kd.C (Kd.int .i64) w A0 l0.length l0) (hc0 : l0.length ≤ c0) (h : shunt_places.f l0 = some r) :
    Calls Try.prog 63 #[.slice A0 l0.length c0] w fun e w' => ∃ v0_ : Value, e = .returned (v0_) ∧ Kd.R k82 82 w' w.heap.size (fun _ => True) v0_ r ∧ Below w.heap.size w w' := by
  have HR0 := Aside0.mk hr0
  have HC0 := Aside0.mk hc0
  clear hr0 hc0
  unfold shunt_places.f at h
  by_cases h60 : l0.length ≤ 60
  case neg => rw [if_neg h60] at h; cases h
  rw [if_pos h60] at h
  have H := Aside0.mk (show (placesGo l0 l0 0 [] []).map plPlace = r from Option.some.inj h)
  clear h
  have hmf : ∀ (fn : Fn) (first cap : Array Value) (w : World), (Instr.makeFunc fn first cap).run Try.prog w = .ok (.func fn first cap) w := fun _ _ _ _ => rfl
  go_enter Try.func63, Try.ntmps63
  go_wp2
  go_loopw [3, 4, 11] (fun v3 v4 v11 wr => ∃ (x : Int) (last : List Int) (out : List (Int × Int)), v11 = .int .i64 x ∧ Aside0 (0 ≤ x ∧ x ≤ l0.length ∧ (last.length : Int) ≤ x ∧ (out.length : Int) = x) ∧ Aside0 (∀ k ∈ last, 0 ≤ k ∧ k < l0.length) ∧ Aside0 ((placesGo l0 (l0.drop x.toNat) x last out).map plPlace = r) ∧ Aside0 (Kd.R k82 82 wr w.heap.size (fun _ => True) v3 (out.map plPlace)) ∧ Aside0 (Kd.R (Kd.int .i64) 3 wr w.heap.size (fun _ => True) v4 last) ∧ Aside0 (wr.heap[w.heap.size]? = some (.cells #[.slice A0 l0.length c0] 22 (0, 0))) ∧ Aside0 (Below w.heap.size w wr)) (fun _ _ v11 _ => l0.length - (intOf v11).toNat)
  case atStart => exact ⟨0, [], [], rfl, ⟨by simp⟩, ⟨by simp⟩, H, ⟨Kd.R_nil _ _ _ _ _⟩, ⟨Kd.R_nil _ _ _ _ _⟩, ⟨heap_alloc_new w _⟩, ⟨below_alloc (Below.refl _ _) _⟩⟩
  case round =>
    clear H
    obtain ⟨x, last, out, rfl, HX, HM, H, HO, HL, HK, HB⟩ := hrel
    obtain ⟨p0, p1, p2, p3⟩ := HX.out
    have hx60 : x ≤ 60 := by omega
    by_cases c2 : x < (l0.length : Int)
    · have c2b0 : decide (x < (l0.length : Int)) = true := decide_eq_true c2
      have H1 : (placesGo l0 (rd l0 x :: l0.drop (x + 1).toNat) x last out).map plPlace = r := by
        rw [← H.out, show (x + 1).toNat = x.toNat + 1 by omega]
        unfold rd
        rw [List.getD_eq_getElem?_getD, List.getElem?_eq_getElem (show x.toNat < l0.length by omega), Option.getD_some, ← List.drop_eq_getElem_cons]
      obtain ⟨ad, ea, hx⟩ := Kd.at_int (Kd.C_below HR0.out HB.out) x p0 c2
      cases ea
      obtain ⟨y, hy⟩ : ∃ y, rd l0 x = y := ⟨_, rfl⟩
      rw [hy] at H1 hx
      have hle := placeQ_le l0 last y
      have hqd : ∃ q, q = placeQ l0 last y := ⟨_, rfl⟩
      obtain ⟨q, hq⟩ := hqd
      have H2 := Aside0.mk (show (placesGo l0 (l0.drop (x + 1).toNat) (x + 1) ((lastFor l0 last y x).set q x) (out ++ [((q : Int), beforeOf (lastFor l0 last y x) q)])).map plPlace = r by rw [hq]; exact H1)
      obtain ⟨A1, c1, e4⟩ := Kd.R_slice HL.out
      have HI := fun rr hrr => Aside0.mk (places_index.calls l0 last (some ad) A1 c0 c1 w.heap.size wr.heap.size y (wr.alloc (.cells #[.int .i64 y] 3)) ((blk_cell (blk_alloc HK.out _) 0).trans rfl) ((blk_cell (heap_alloc_new wr _) 0).trans rfl) (Kd.C_alloc (Kd.C_below HR0.out HB.out) _) (Kd.C_alloc (e4 ▸ HL.out |> fun h => (Kd.R_reads' h).2.2) _) HM.out (by omega) rr hrr)
      have q0 := eq_true p0
      have q1 := eq_true c2
      have HQ := Aside0.mk hq
      subst e4
      have hbox : ∀ o, (wr.alloc o).cell? ⟨wr.heap.size, 0, none⟩ = (wr.alloc o).cell? ⟨wr.heap.size, 0, none⟩ := fun _ => rfl
      clear hbox H H1 hy
      have hout : out.length ≤ 1000 := by omega
      have HOUT := Aside0.mk hout
      have CONT : ∀ v9 w9 last' bf, lastFor l0 last y x = last' → beforeOf last' q = bf → Kd.R k82 82 w9 w.heap.size (fun _ => True) v9 ((out ++ [((q : Int), bf)]).map plPlace) → ∀ v4, Kd.R (Kd.int .i64) 3 w9 w.heap.size (fun _ => True) v4 (last'.set q x) → w9.heap[w.heap.size]? = some (.cells #[.slice (some ad) l0.length c0] 22 (0, 0)) → Below w.heap.size w w9 →
          ∃ (x' : Int) (last : List Int) (out : List (Int × Int)), (Value.int .i64 (x + 1)) = .int .i64 x' ∧ Aside0 (0 ≤ x' ∧ x' ≤ l0.length ∧ (last.length : Int) ≤ x' ∧ (out.length : Int) = x') ∧ Aside0 (∀ k ∈ last, 0 ≤ k ∧ k < l0.length) ∧ Aside0 ((placesGo l0 (l0.drop x'.toNat) x' last out).map plPlace = r) ∧ Aside0 (Kd.R k82 82 w9 w.heap.size (fun _ => True) v9 (out.map plPlace)) ∧ Aside0 (Kd.R (Kd.int .i64) 3 w9 w.heap.size (fun _ => True) v4 last) ∧ Aside0 (w9.heap[w.heap.size]? = some (.cells #[.slice (some ad) l0.length c0] 22 (0, 0))) ∧ Aside0 (Below w.heap.size w w9) := fun v9 w9 last' bf e1 e2 e3 v4 e4 e5 e6 => by
        have hL : (last'.length : Int) ≤ x + 1 := by
          rw [← e1]; unfold lastFor
          split
          · omega
          · simp; omega
        refine ⟨x + 1, last'.set q x, out ++ [((q : Int), bf)], rfl, ⟨by omega, by omega, by rw [List.length_set]; exact hL, by simp; omega⟩, ⟨fun k hk => ?_⟩, ⟨by have := H2.out; rw [e1, e2] at this; exact this⟩, ⟨e3⟩, ⟨e4⟩, ⟨e5⟩, ⟨e6⟩⟩
        rcases List.mem_or_eq_of_mem_set hk with hk | rfl
        · rw [← e1] at hk
          unfold lastFor at hk
          split at hk
          · exact HM.out k hk
          · rcases List.mem_append.1 hk with hk | hk
            · exact HM.out k hk
            · have : k = x := by simpa using hk
              omega
        · exact ⟨p0, c2⟩
      have CT := Aside0.mk CONT
      clear CONT H2 HX
      by_cases c3 : placeQ l0 last y < last.length
      · have HI2 := HI (q : Int) (by rw [if_pos c3, hq])
        have HLF := Aside0.mk (show lastFor l0 last y x = last by unfold lastFor; rw [if_pos c3])
        have hqlt : q < last.length := by omega
        obtain ⟨g1, rfl⟩ := R_addr HL.out (by omega)
        have HQL := Aside0.mk hqlt
        have hq60 : q ≤ 60 := by omega
        by_cases c5 : q = 0
        · subst c5
          have HI3 := Aside0.mk HI2.out
          clear HI HI2 c2 c3 hq p1 p2 p3 hle hout
          go_wp2_with (first | (go_at_call 77; go_must ((with_reducible refine HI3.out.mono ?_); rintro e w2 ⟨rfl, ⟨nd, rfl⟩⟩; obtain ⟨v9, w9, ⟨old, t1⟩, t2, t3, t4, t5, t6, t7, t8⟩ := places_tail (w := w) (W := ((wr.alloc (.cells #[.int .i64 y] 3)).drewN nd).alloc (.cells #[.int .i64 0, .int .i64 (-1)] 82)) (q := 0) (gp := wr.heap.size + 1) (x := x) (bf := -1) (c0 := c0) (A0 := some ad) (l0 := l0) (Kd.R_alloc (Kd.R_drewN (Kd.R_alloc HL.out _) _) _) HQL.out (Kd.R_alloc (Kd.R_drewN (Kd.R_alloc HO.out _) _) _) (blk_alloc (blk_drewN (blk_alloc HK.out _) _) _) (by have := heap_alloc_new ((wr.alloc (.cells #[.int .i64 y] 3)).drewN nd) (.cells #[.int .i64 0, .int .i64 (-1)] 82); simpa using this) (below_alloc (pw_below_drewN (below_alloc HB.out _) _) _) HOUT.out; have c90 := (blk_cell t3 0).trans rfl; have c91 := (blk_cell t3 1).trans rfl; have hsz : ((((wr.alloc (.cells #[.int .i64 y] 3)).drewN nd).alloc (.cells #[.int .i64 0, .int .i64 (-1)] 82)).setCell ⟨g1, 0, none⟩ (.int .i64 x)).heap.size = wr.heap.size + 1 + 1 := (by simp [World.setCell]); rw [hsz] at t4; clear hsz; have T4 := Aside0.mk t4; have T5 := Aside0.mk t5; have T6 := Aside0.mk t6; have T7 := Aside0.mk t7; have T8 := Aside0.mk t8; clear t4 t5 t6 t7 t8 t3)) | (at_builtin; go_must (refine wpList_appendRun _ rfl _ _ _ rfl T4.out rfl rfl rfl ?_)))
          go_roundw
          case rel => exact CT.out _ _ last (-1) HLF.out rfl T5.out _ T6.out T7.out T8.out
          case measure => have := of_eq_true q1; simp [intOf]; omega
        · obtain ⟨jt, hjt⟩ : ∃ jt : Int, (q : Int) - 1 = jt := ⟨_, rfl⟩
          have hj0 : 0 ≤ jt := by omega
          have hj1 : jt < last.length := by omega
          have hbf : beforeOf last q = rd last jt := by
            unfold beforeOf rd
            rw [if_neg c5, ← hjt, show ((q : Int) - 1).toNat = q - 1 by omega]
          have HBF := Aside0.mk hbf
          have hq1 : decide (0 < q) = true := decide_eq_true (by omega)
          have hq2 : decide ((0 : Int) < (q : Int)) = true := decide_eq_true (by omega)
          have hcell := (Kd.R_celln (0 : Int) (Kd.R_alloc HL.out (.cells #[.int .i64 y] 3)) jt hj0 (by have := (Kd.R_reads' HL.out).1; omega)).1
          have hcell2 : ∀ nd, (((wr.alloc (.cells #[.int .i64 y] 3)).drewN nd).alloc (.cells #[.int .i64 (q : Int), .int .i64 (-1)] 82)).cell? ⟨g1, jt.toNat, none⟩ = some (.int .i64 (rd last jt)) := fun nd => (Kd.R_celln (0 : Int) (Kd.R_alloc (Kd.R_drewN (Kd.R_alloc HL.out (.cells #[.int .i64 y] 3)) nd) (.cells #[.int .i64 (q : Int), .int .i64 (-1)] 82)) jt hj0 (by have := (Kd.R_reads' HL.out).1; omega)).1
          have hqI : (q : Int) < last.length := by omega
          have HI3 := Aside0.mk HI2.out
          have e0 := eq_true hj0
          have e1 := eq_true hj1
          clear HI HI2 c2 c3 hq p1 p2 p3 hle hout hbf c5 hcell
          go_wp2_with (first | (go_at_call 77; go_must ((with_reducible refine HI3.out.mono ?_); rintro e w2 ⟨rfl, ⟨nd, rfl⟩⟩; obtain ⟨v9, w9, ⟨old, t1⟩, t2, t3, t4, t5, t6, t7, t8⟩ := places_tail (w := w) (W := ((wr.alloc (.cells #[.int .i64 y] 3)).drewN nd).alloc (.cells #[.int .i64 (q : Int), .int .i64 (rd last jt)] 82)) (q := q) (gp := wr.heap.size + 1) (x := x) (bf := rd last jt) (c0 := c0) (A0 := some ad) (l0 := l0) (Kd.R_alloc (Kd.R_drewN (Kd.R_alloc HL.out _) _) _) HQL.out (Kd.R_alloc (Kd.R_drewN (Kd.R_alloc HO.out _) _) _) (blk_alloc (blk_drewN (blk_alloc HK.out _) _) _) (by have := heap_alloc_new ((wr.alloc (.cells #[.int .i64 y] 3)).drewN nd) (.cells #[.int .i64 (q : Int), .int .i64 (rd last jt)] 82); simpa using this) (below_alloc (pw_below_drewN (below_alloc HB.out _) _) _) HOUT.out; have c90 := (blk_cell t3 0).trans rfl; have c91 := (blk_cell t3 1).trans rfl; have hsz : ((((wr.alloc (.cells #[.int .i64 y] 3)).drewN nd).alloc (.cells #[.int .i64 (q : Int), .int .i64 (rd last jt)] 82)).setCell ⟨g1, q, none⟩ (.int .i64 x)).heap.size = wr.heap.size + 1 + 1 := (by simp [World.setCell]); rw [hsz] at t4; clear hsz; have T4 := Aside0.mk t4; have T5 := Aside0.mk t5; have T6 := Aside0.mk t6; have T7 := Aside0.mk t7; have T8 := Aside0.mk t8; clear t4 t5 t6 t7 t8 t3)) | (at_builtin; go_must (refine wpList_appendRun _ rfl _ _ _ rfl T4.out rfl rfl rfl ?_)))
          go_roundw
          case rel => exact CT.out _ _ last (rd last jt) HLF.out HBF.out T5.out _ T6.out T7.out T8.out
          case measure => have := of_eq_true q1; simp [intOf]; omega
      · have HI2 := HI (-1) (by rw [if_neg c3])
        have hqe : q = last.length := by omega
        subst hqe
        have HLF := Aside0.mk (show lastFor l0 last y x = last ++ [x] by unfold lastFor; rw [if_neg c3])
        have HQL := Aside0.mk (show last.length < (last ++ [x]).length by simp)
        have hll : (last ++ [x]).length = last.length + 1 := by simp
        have hq60 : last.length ≤ 60 := by omega
        have hqI : (last.length : Int) < (last.length : Int) + 1 := by omega
        have hqN : last.length < last.length + 1 := by omega
        have HI3 := Aside0.mk HI2.out
        by_cases c5 : last.length = 0
        · have HBF := Aside0.mk (show beforeOf (last ++ [x]) last.length = -1 by unfold beforeOf; rw [if_pos c5])
          have hq1 : decide (0 < last.length) = false := decide_eq_false (by omega)
          have hq2 : decide ((0 : Int) < (last.length : Int)) = false := decide_eq_false (by omega)
          clear HI HI2 c2 c3 hq p1 p2 p3 hle hout c5
          go_wp2_with (first | (go_at_call 77; go_must ((with_reducible refine HI3.out.mono ?_); rintro e w2 ⟨rfl, ⟨nd, rfl⟩⟩; obtain ⟨v4, w3, z0, z1, z2, z3, _⟩ := append_one (Kd.int .i64) (P := Try.prog) (w0 := w) (W := (wr.alloc (.cells #[.int .i64 y] 3)).drewN nd) w.heap.size 22 22 3 (.int .i64 0) 8 Try.underlying22 info3 rfl (by decide) (by omega) (v := .slice A1 last.length c1) (xs := last) x [.int .i64 x] (ok := fun _ => True) (fun _ => False) rfl (fun _ h => h.elim) (fun k hk => trivial) (Kd.R_drewN (Kd.R_alloc HL.out _) _) (pw_below_drewN (below_alloc HB.out _) _) (by have := HB.out.size; simp; omega) (by omega); obtain ⟨A4, c4, e4⟩ := Kd.R_slice z1; subst e4; obtain ⟨g1, e5⟩ := R_addr z1 (by simp); subst e5; have y1 := row_new' (Kd.R_drewN (Kd.R_alloc HL.out _) _) (Kd.R_drewN (Kd.R_alloc HO.out _) _) z3; have y2 := blk_row (Kd.R_drewN (Kd.R_alloc HL.out _) _) z3 (blk_drewN (blk_alloc HK.out _) _) (by decide); rw [hll] at z0 z1; have hsz0 : ((wr.alloc (.cells #[.int .i64 y] 3)).drewN nd).heap.size = wr.heap.size + 1 := (by simp); rw [hsz0] at z0; clear hsz0; have Z0 := Aside0.mk z0; obtain ⟨v9, w9, ⟨old, t1⟩, t2, t3, t4, t5, t6, t7, t8⟩ := places_tail (w := w) (W := w3.alloc (.cells #[.int .i64 (last.length : Int), .int .i64 (-1)] 82)) (q := last.length) (gp := w3.heap.size) (x := x) (bf := (-1)) (c0 := c0) (A0 := some ad) (l0 := l0) (Kd.R_alloc z1 _) HQL.out (Kd.R_alloc y1 _) (blk_alloc y2 _) (heap_alloc_new w3 _) (below_alloc z2 _) HOUT.out; have c90 := (blk_cell t3 0).trans rfl; have c91 := (blk_cell t3 1).trans rfl; have hsz : ((w3.alloc (.cells #[.int .i64 (last.length : Int), .int .i64 (-1)] 82)).setCell ⟨g1, last.length, none⟩ (.int .i64 x)).heap.size = w3.heap.size + 1 := (by simp [World.setCell]); rw [hsz] at t4; clear hsz; have T4 := Aside0.mk t4; have T5 := Aside0.mk t5; have T6 := Aside0.mk t6; have T7 := Aside0.mk t7; have T8 := Aside0.mk t8; clear t4 t5 t6 t7 t8 t3; clear z0 z1 z2 z3 y1 y2)) | (at_builtin; refine wpList_appendRun _ rfl _ _ _ rfl Z0.out rfl rfl rfl ?_) | (at_builtin; refine wpList_appendRun _ rfl _ _ _ rfl T4.out rfl rfl rfl ?_))
          go_roundw
          case rel => exact CT.out _ _ _ (-1) HLF.out HBF.out T5.out _ T6.out T7.out T8.out
          case measure => have := of_eq_true q1; simp [intOf]; omega
        · obtain ⟨jt, hjt⟩ : ∃ jt : Int, (last.length : Int) - 1 = jt := ⟨_, rfl⟩
          have hj0 : 0 ≤ jt := by omega
          have hj1 : jt < (last.length : Int) + 1 := by omega
          have HJ1 := Aside0.mk (show jt < ((last.length + 1 : Nat) : Int) by omega)
          have hbf : beforeOf (last ++ [x]) last.length = rd (last ++ [x]) jt := by
            unfold beforeOf rd
            rw [if_neg c5, ← hjt, show ((last.length : Int) - 1).toNat = last.length - 1 by omega]
          have HBF := Aside0.mk hbf
          have hq1 : decide (0 < last.length) = true := decide_eq_true (by omega)
          have hq2 : decide ((0 : Int) < (last.length : Int)) = true := decide_eq_true (by omega)
          have e0 := eq_true hj0
          have e1 := eq_true hj1
          clear HI HI2 c2 c3 hq p1 p2 p3 hle hout hbf c5
          go_wp2_with (first | (go_at_call 77; go_must ((with_reducible refine HI3.out.mono ?_); rintro e w2 ⟨rfl, ⟨nd, rfl⟩⟩; obtain ⟨v4, w3, z0, z1, z2, z3, _⟩ := append_one (Kd.int .i64) (P := Try.prog) (w0 := w) (W := (wr.alloc (.cells #[.int .i64 y] 3)).drewN nd) w.heap.size 22 22 3 (.int .i64 0) 8 Try.underlying22 info3 rfl (by decide) (by omega) (v := .slice A1 last.length c1) (xs := last) x [.int .i64 x] (ok := fun _ => True) (fun _ => False) rfl (fun _ h => h.elim) (fun k hk => trivial) (Kd.R_drewN (Kd.R_alloc HL.out _) _) (pw_below_drewN (below_alloc HB.out _) _) (by have := HB.out.size; simp; omega) (by omega); obtain ⟨A4, c4, e4⟩ := Kd.R_slice z1; subst e4; obtain ⟨g1, e5⟩ := R_addr z1 (by simp); subst e5; have y1 := row_new' (Kd.R_drewN (Kd.R_alloc HL.out _) _) (Kd.R_drewN (Kd.R_alloc HO.out _) _) z3; have y2 := blk_row (Kd.R_drewN (Kd.R_alloc HL.out _) _) z3 (blk_drewN (blk_alloc HK.out _) _) (by decide); rw [hll] at z0 z1; have hsz0 : ((wr.alloc (.cells #[.int .i64 y] 3)).drewN nd).heap.size = wr.heap.size + 1 := (by simp); rw [hsz0] at z0; clear hsz0; have Z0 := Aside0.mk z0; obtain ⟨v9, w9, ⟨old, t1⟩, t2, t3, t4, t5, t6, t7, t8⟩ := places_tail (w := w) (W := w3.alloc (.cells #[.int .i64 (last.length : Int), .int .i64 (rd (last ++ [x]) jt)] 82)) (q := last.length) (gp := w3.heap.size) (x := x) (bf := (rd (last ++ [x]) jt)) (c0 := c0) (A0 := some ad) (l0 := l0) (Kd.R_alloc z1 _) HQL.out (Kd.R_alloc y1 _) (blk_alloc y2 _) (heap_alloc_new w3 _) (below_alloc z2 _) HOUT.out; have c90 := (blk_cell t3 0).trans rfl; have c91 := (blk_cell t3 1).trans rfl; have hsz : ((w3.alloc (.cells #[.int .i64 (last.length : Int), .int .i64 (rd (last ++ [x]) jt)] 82)).setCell ⟨g1, last.length, none⟩ (.int .i64 x)).heap.size = w3.heap.size + 1 := (by simp [World.setCell]); rw [hsz] at t4; clear hsz; have T4 := Aside0.mk t4; have T5 := Aside0.mk t5; have T6 := Aside0.mk t6; have T7 := Aside0.mk t7; have T8 := Aside0.mk t8; clear t4 t5 t6 t7 t8 t3; have hcell2 : (w3.alloc (.cells #[.int .i64 (last.length : Int), .int .i64 (-1)] 82)).cell? ⟨g1, jt.toNat, none⟩ = some (.int .i64 (rd (last ++ [x]) jt)) := (Kd.R_celln (0 : Int) (Kd.R_alloc z1 (.cells #[.int .i64 (last.length : Int), .int .i64 (-1)] 82)) jt (of_eq_true e0) HJ1.out).1; clear z0 z1 z2 z3 y1 y2)) | (at_builtin; refine wpList_appendRun _ rfl _ _ _ rfl Z0.out rfl rfl rfl ?_) | (at_builtin; refine wpList_appendRun _ rfl _ _ _ rfl T4.out rfl rfl rfl ?_))
          go_roundw
          case rel => exact CT.out _ _ _ (rd (last ++ [x]) jt) HLF.out HBF.out T5.out _ T6.out T7.out T8.out
          case measure => have := of_eq_true q1; simp [intOf]; omega
    · have c2b0 : decide (x < (l0.length : Int)) = false := decide_eq_false c2
      have hr : out.map plPlace = r := by
        rw [← H.out, List.drop_eq_nil_of_le (by omega)]
        rfl
      subst hr
      clear c2 H p1 p2 p3
      go_wp2
      go_ret
      exact ⟨_, rfl, HO.out, HB.out⟩


end Go.Proofs.Ytjbjongahnocdaa.S

namespace Go.Proofs.Ytjbjongahnocdaa.S
open Go.Proofs.Ytjbjongahnocdaa.Lib
open Go.Proofs.Ytjbjongahnocdaa.Defs
open Go.Maps (Keyed)
open Go.RowKit Go.Proofs.YtjbjongahnocdaaW.PrintWords Go.Proofs.YtjbjongahnocdaaW.PrintLast Go.Proofs.YtjbjongahnocdaaW.PrintMore
attribute [local go_sem] max2_int min2_int max_two min_two max_three min_three max_four min_four   -- for this text's walks alone
set_option linter.unusedVariables false
set_option linter.unusedSimpArgs false

/-! ### shunt_Queues: function 43 -/
mutual
def shunt_Queues.j0 : Nat → List Int → Int → Bool → Option (List Int × List Int × Int)
  | 0, _, _, _ => none
  | k + 1, x0, x1, x19 => if x19 = true then (some (([] : List Int), ([] : List Int), 2)) else ((shunt_places.f x0).bind fun t474 => (shunt_Queues.l0 k x1 t474 ([] : List Int) t474 (t474.length : Int) 0))
def shunt_Queues.l0 : Nat → Int → List (S82) → List Int → List (S82) → Int → Int → Option (List Int × List Int × Int)
  | 0, _, _, _, _, _, _ => none
  | k + 1, x1, x7, x8, x22, x23, x24 => if x24 < x23 then (if 0 ≤ x24 then (if x24 < (x22.length : Int) then (if ((rd_T82 x22 x24).f0) = x1 then (shunt_Queues.l1 k x7 x24 ([] : List Int)) else (if x8.length < 17592186044416 then (shunt_Queues.l0 k x1 x7 (x8 ++ [(rd_T82 x22 x24).f0]) x22 x23 (wrap64 (x24 + 1))) else (none))) else (none)) else (none)) else (some (x8, ([] : List Int), 0))
def shunt_Queues.l1 : Nat → List (S82) → Int → List Int → Option (List Int × List Int × Int)
  | 0, _, _, _ => none
  | k + 1, x7, x9, x11 => if x9 ≥ 0 then (if x11.length < 17592186044416 then (if 0 ≤ x9 then (if x9 < (x7.length : Int) then (shunt_Queues.l1 k x7 ((rd_T82 x7 x9).f1) (x11 ++ [x9])) else (none)) else (none)) else (none)) else ((slices_Reverse_int_int.f k x11).bind fun t483 => (some (([] : List Int), t483, 0)))
end
def shunt_Queues.f (k : Nat) (l0 : List Int) (a1 : Int) : Option (List Int × List Int × Int) := (shunt_isOrder.f l0).bind fun t472 => (if t472 = true then ((shunt_within.f a1 1 60).bind fun t473 => (shunt_Queues.j0 k l0 a1 (!t473))) else (shunt_Queues.j0 k l0 a1 true))
theorem shunt_Queues.mono_l : ∀ k, (∀ y0 y1 y2, LeO (shunt_Queues.j0 k y0 y1 y2) (shunt_Queues.j0 (k + 1) y0 y1 y2)) ∧ (∀ y0 y1 y2 y3 y4 y5, LeO (shunt_Queues.l0 k y0 y1 y2 y3 y4 y5) (shunt_Queues.l0 (k + 1) y0 y1 y2 y3 y4 y5)) ∧ (∀ y0 y1 y2, LeO (shunt_Queues.l1 k y0 y1 y2) (shunt_Queues.l1 (k + 1) y0 y1 y2))
  | 0 => ⟨fun _ _ _ r h => by simp [shunt_Queues.j0] at h, fun _ _ _ _ _ _ r h => by simp [shunt_Queues.l0] at h, fun _ _ _ r h => by simp [shunt_Queues.l1] at h⟩
  | k + 1 => by
    obtain ⟨ih0, ih1, ih2⟩ := shunt_Queues.mono_l k
    refine ⟨?_, ?_, ?_⟩
    · intro y0 y1 y2
      unfold shunt_Queues.j0
      repeat' first
      | (with_reducible exact ih0 _ _ _)
      | (with_reducible exact ih1 _ _ _ _ _ _)
      | (with_reducible exact ih2 _ _ _)
      | (with_reducible exact slices_Reverse_int_int.mono _ _)
      | (with_reducible exact LeO.refl _)
      | (with_reducible exact LeO.none _)
      | (with_reducible refine LeO.ite ?_ ?_)
      | (with_reducible refine LeO.bind ?_ (fun _ => ?_))
      | exact ih0 _ _ _
      | exact ih1 _ _ _ _ _ _
      | exact ih2 _ _ _
      | exact slices_Reverse_int_int.mono _ _
      | exact LeO.none _
      | refine LeO.ite ?_ ?_
      | refine LeO.bind ?_ (fun _ => ?_)
    · intro y0 y1 y2 y3 y4 y5
      unfold shunt_Queues.l0
      repeat' first
      | (with_reducible exact ih0 _ _ _)
      | (with_reducible exact ih1 _ _ _ _ _ _)
      | (with_reducible exact ih2 _ _ _)
      | (with_reducible exact slices_Reverse_int_int.mono _ _)
      | (with_reducible exact LeO.refl _)
      | (with_reducible exact LeO.none _)
      | (with_reducible refine LeO.ite ?_ ?_)
      | (with_reducible refine LeO.bind ?_ (fun _ => ?_))
      | exact ih0 _ _ _
      | exact ih1 _ _ _ _ _ _
      | exact ih2 _ _ _
      | exact slices_Reverse_int_int.mono _ _
      | exact LeO.none _
      | refine LeO.ite ?_ ?_
      | refine LeO.bind ?_ (fun _ => ?_)
    · intro y0 y1 y2
      unfold shunt_Queues.l1
      repeat' first
      | (with_reducible exact ih0 _ _ _)
      | (with_reducible exact ih1 _ _ _ _ _ _)
      | (with_reducible exact ih2 _ _ _)
      | (with_reducible exact slices_Reverse_int_int.mono _ _)
      | (with_reducible exact LeO.refl _)
      | (with_reducible exact LeO.none _)
      | (with_reducible refine LeO.ite ?_ ?_)
      | (with_reducible refine LeO.bind ?_ (fun _ => ?_))
      | exact ih0 _ _ _
      | exact ih1 _ _ _ _ _ _
      | exact ih2 _ _ _
      | exact slices_Reverse_int_int.mono _ _
      | exact LeO.none _
      | refine LeO.ite ?_ ?_
      | refine LeO.bind ?_ (fun _ => ?_)
theorem shunt_Queues.mono : ∀ a0 a1 k, LeO (shunt_Queues.f k a0 a1) (shunt_Queues.f (k + 1) a0 a1) := by
  intro a0 a1 k
  obtain ⟨ih0, ih1, ih2⟩ := shunt_Queues.mono_l k
  unfold shunt_Queues.f
  repeat' first
      | (with_reducible exact ih0 _ _ _)
      | (with_reducible exact ih1 _ _ _ _ _ _)
      | (with_reducible exact ih2 _ _ _)
      | (with_reducible exact slices_Reverse_int_int.mono _ _)
      | (with_reducible exact LeO.refl _)
      | (with_reducible exact LeO.none _)
      | (with_reducible refine LeO.ite ?_ ?_)
      | (with_reducible refine LeO.bind ?_ (fun _ => ?_))
      | exact ih0 _ _ _
      | exact ih1 _ _ _ _ _ _
      | exact ih2 _ _ _
      | exact slices_Reverse_int_int.mono _ _
      | exact LeO.none _
      | refine LeO.ite ?_ ?_
      | refine LeO.bind ?_ (fun _ => ?_)
set_option maxHeartbeats 8000000 in
set_option maxRecDepth 100000 in
theorem shunt_Queues.calls (k : Nat) (A0 : Option Addr) (c0 : Nat) (l0 : List Int) (a1 : Int) (r1 : List Int) (r2 : List Int) (r3 : Int) (w : World) (hr0 : Kd.C (Kd.int .i64) w A0 l0.length l0) (hc0 : l0.length ≤ c0) (h : shunt_Queues.f k l0 a1 = some (r1, r2, r3)) :
    Calls Try.prog 43 #[.slice A0 l0.length c0, .int .i64 a1] w fun e w' => ∃ v0_ v1_ : Value, e = .returned (.tuple #[v0_, v1_, .int .i64 r3]) ∧ Kd.R (Kd.int .i64) 3 w' w.heap.size (fun k_ => some k_ ≠ (v1_ : Value).ownBlock) v0_ r1 ∧ Kd.R (Kd.int .i64) 3 w' w.heap.size (fun k_ => some k_ ≠ (v0_ : Value).ownBlock) v1_ r2 ∧ Below w.heap.size w w' := by
  have hu82 := Try.underlying82
  have HR0 := Aside0.mk hr0
  have HC0 := Aside0.mk hc0
  clear hr0 hc0
  have HB := Aside0.mk (Below.refl w.heap.size w)
  have H : ((shunt_isOrder.f l0).bind fun t472 => (if t472 = true then ((shunt_within.f a1 1 60).bind fun t473 => (shunt_Queues.j0 k l0 a1 (!t473))) else (shunt_Queues.j0 k l0 a1 true))) = some (r1, r2, r3) := h
  clear h
  have HC3 := Aside0.mk H
  clear H
  go_enter Try.func43, Try.ntmps43
  go_upto_region 1 with (fail)
  go_cut [19] (fun v19 wc => ∃ (kq : Nat) (x19_2 : Bool), v19 = .bool x19_2 ∧ Aside0 (shunt_Queues.j0 kq l0 a1 x19_2 = some (r1, r2, r3)) ∧ Aside0 (kq ≤ k) ∧ Aside0 (Below w.heap.size w wc))
  case first =>
    have H := HC3.out
    clear HC3
    replace H := Option.bind_eq_some_iff.mp H
    obtain ⟨t472, A40, H⟩ := H
    replace H : (if t472 = true then ((shunt_within.f a1 1 60).bind fun t473 => (shunt_Queues.j0 k l0 a1 (!t473))) else (shunt_Queues.j0 k l0 a1 true)) = some (r1, r2, r3) := H
    have A4 := Aside0.mk A40
    clear A40
    by_cases c5 : t472 = true
    · subst c5
      have H1 : ((shunt_within.f a1 1 60).bind fun t473 => (shunt_Queues.j0 k l0 a1 (!t473))) = some (r1, r2, r3) := by rw [if_pos rfl] at H; exact H
      clear H
      have H := H1
      clear H1
      replace H := Option.bind_eq_some_iff.mp H
      obtain ⟨t473, A60, H⟩ := H
      replace H : (shunt_Queues.j0 k l0 a1 (!t473)) = some (r1, r2, r3) := H
      have A6 := Aside0.mk A60
      clear A60
      have H' := Aside0.mk H
      clear H
      go_wp2_with (first | ((with_reducible refine gate_callee (f := 52) rfl ?_); refine goesL_ (some 13) rfl rfl Try.func52 (by kernel_rfl) rfl #[.slice A0 l0.length c0] rfl (by (try simp only [List.map_toArray, List.map_cons, List.map_nil]); first | done | rfl | (simp only [List.length_drop, List.length_take]; rfl)) ?_; (with_reducible refine (shunt_isOrder.calls _ _ l0 true _ ?side1 ?side2 A4.out).mono ?_); (case side1 => repeat (first | exact (Kd.C_below HR0.out HB.out) | (with_reducible refine Kd.C_alloc ?_ _) | (with_reducible refine Kd.C_drewN ?_ _) | (with_reducible refine Kd.C_drew ?_))); (case side2 => exact HC0.out); rintro e w7 ⟨rfl, hb⟩; refine ⟨_, rfl, ?_⟩; have n0_ := Aside0.mk (below_step (by repeat (first | (with_reducible first | exact HB.out | apply below_alloc | apply pw_below_drewN | apply below_drew1) | exact HB.out)) hb); clear HB; have HB := n0_; clear n0_; (try clear hb); (try clear hb2); (try clear hk); (try clear hi)) | (go_at_call 64; (with_reducible refine (shunt_within.calls a1 1 60 t473 _ A6.out).mono ?_); rintro e w' ⟨rfl, ⟨nd, rfl⟩⟩))
      go_meet
      case rel => exact ⟨_, (!t473), (by first | rfl | (simp; done) | (simp [*]; done)), H', ⟨by first | omega | exact Nat.le_refl _⟩, ⟨by repeat (first | (with_reducible first | exact HB.out | apply below_alloc | apply pw_below_drewN | apply below_drew1) | exact HB.out)⟩⟩
    · replace c5 := Bool.eq_false_iff.mpr c5
      subst c5
      have H1 : (shunt_Queues.j0 k l0 a1 true) = some (r1, r2, r3) := by rw [if_neg (show ¬ (false = true) by decide)] at H; exact H
      clear H
      have H := H1
      clear H1
      have H' := Aside0.mk H
      clear H
      go_wp2_with (first | ((with_reducible refine gate_callee (f := 52) rfl ?_); refine goesL_ (some 13) rfl rfl Try.func52 (by kernel_rfl) rfl #[.slice A0 l0.length c0] rfl (by (try simp only [List.map_toArray, List.map_cons, List.map_nil]); first | done | rfl | (simp only [List.length_drop, List.length_take]; rfl)) ?_; (with_reducible refine (shunt_isOrder.calls _ _ l0 false _ ?side1 ?side2 A4.out).mono ?_); (case side1 => repeat (first | exact (Kd.C_below HR0.out HB.out) | (with_reducible refine Kd.C_alloc ?_ _) | (with_reducible refine Kd.C_drewN ?_ _) | (with_reducible refine Kd.C_drew ?_))); (case side2 => exact HC0.out); rintro e w8 ⟨rfl, hb⟩; refine ⟨_, rfl, ?_⟩; have n0_ := Aside0.mk (below_step (by repeat (first | (with_reducible first | exact HB.out | apply below_alloc | apply pw_below_drewN | apply below_drew1) | exact HB.out)) hb); clear HB; have HB := n0_; clear n0_; (try clear hb); (try clear hb2); (try clear hk); (try clear hi)))
      go_meet
      case rel => exact ⟨_, (true), (by first | rfl | (simp; done) | (simp [*]; done)), H', ⟨by first | omega | exact Nat.le_refl _⟩, ⟨by repeat (first | (with_reducible first | exact HB.out | apply below_alloc | apply pw_below_drewN | apply below_drew1) | exact HB.out)⟩⟩
  case rest =>
    clear HC3
    try clear p2
    try clear c4
    try clear c5
    obtain ⟨kq, x19_2, rfl, HA, HJ2, HB⟩ := hcut
    cases kq with
    | zero => exact absurd HA.out (by simp [shunt_Queues.j0])
    | succ kj2 =>
      have H := HA.out
      clear HA
      simp only [shunt_Queues.j0] at H
      by_cases c9 : x19_2 = true
      · subst c9
        have H1 : (some (([] : List Int), ([] : List Int), 2)) = some (r1, r2, r3) := by rw [if_pos rfl] at H; exact H
        clear H
        have H := H1
        clear H1
        simp only [Option.some.injEq, Prod.mk.injEq] at H
        obtain ⟨rfl, rfl, rfl⟩ := H
        go_wp2
        go_ret3
        exact ⟨_, _, by first | rfl | (simp [errW_none, errW_some] <;> rfl) | (simp [*, errW_none, errW_some] <;> rfl), by first | exact Kd.R_nil _ _ _ _ _ | exact Kd.N_nil _ _ _ _ _ | exact Kd.V_nil _ _ _ _ _ | exact Kd.Q_nil _ _ _ _ _ | exact Kd.S_nil _ _ _ _ _, by first | exact Kd.R_nil _ _ _ _ _ | exact Kd.N_nil _ _ _ _ _ | exact Kd.V_nil _ _ _ _ _ | exact Kd.Q_nil _ _ _ _ _ | exact Kd.S_nil _ _ _ _ _, by repeat (first | (with_reducible first | exact HB.out | apply below_alloc | apply pw_below_drewN | apply below_drew1) | exact HB.out)⟩
      · replace c9 := Bool.eq_false_iff.mpr c9
        subst c9
        have H1 : ((shunt_places.f l0).bind fun t474 => (shunt_Queues.l0 kj2 a1 t474 ([] : List Int) t474 (t474.length : Int) 0)) = some (r1, r2, r3) := by rw [if_neg (show ¬ (false = true) by decide)] at H; exact H
        clear H
        have H := H1
        clear H1
        replace H := Option.bind_eq_some_iff.mp H
        obtain ⟨t474, A100, H⟩ := H
        replace H : (shunt_Queues.l0 kj2 a1 t474 ([] : List Int) t474 (t474.length : Int) 0) = some (r1, r2, r3) := H
        have A10 := Aside0.mk A100
        clear A100
        have H' := Aside0.mk H
        clear H
        go_wp2_with (first | ((with_reducible refine gate_callee (f := 63) rfl ?_); refine goesL_ (some 21) rfl rfl Try.func63 (by kernel_rfl) rfl #[.slice A0 l0.length c0] rfl (by (try simp only [List.map_toArray, List.map_cons, List.map_nil]); first | done | rfl | (simp only [List.length_drop, List.length_take]; rfl)) ?_; (with_reducible refine (shunt_places.calls _ _ l0 t474 _ ?side1 ?side2 A10.out).mono ?_); (case side1 => repeat (first | exact (Kd.C_below HR0.out HB.out) | (with_reducible refine Kd.C_alloc ?_ _) | (with_reducible refine Kd.C_drewN ?_ _) | (with_reducible refine Kd.C_drew ?_))); (case side2 => exact HC0.out); rintro e w11 ⟨v475, rfl, ho0, hb⟩; refine ⟨_, rfl, ?_⟩; have n0_ := Aside0.mk (Kd.R_lower ho0 (below_size (by repeat (first | (with_reducible first | exact HB.out | apply below_alloc | apply pw_below_drewN | apply below_drew1) | exact HB.out)))); have n1_ := Aside0.mk (below_step (by repeat (first | (with_reducible first | exact HB.out | apply below_alloc | apply pw_below_drewN | apply below_drew1) | exact HB.out)) hb); clear HB; have HO476 := n0_; have HB := n1_; clear n0_ n1_; (try clear hb); (try clear hb2); (try clear hk); (try clear hi); (try clear ho0); obtain ⟨Ao12, co12, eo12⟩ := Kd.R_slice HO476.out; subst eo12))
        go_loopg [8, 24] kj2 (fun kq v8 v24 w' => ∃ (x8_2 : List Int) (x24_2 : Int), v24 = .int .i64 x24_2 ∧ Aside0 (shunt_Queues.l0 kq a1 t474 x8_2 t474 (t474.length : Int) x24_2 = some (r1, r2, r3)) ∧ Aside0 (kq ≤ kj2) ∧ Aside0 (Kd.R k82 82 w' w.heap.size (fun _ => True) (.slice Ao12 t474.length co12) t474) ∧ Aside0 (Kd.R (Kd.int .i64) 3 w' w.heap.size (fun _ => True) v8 x8_2) ∧ Aside0 (Kd.R k82 82 w' w.heap.size (fun _ => True) (.slice Ao12 t474.length co12) t474) ∧ Aside0 (Below w.heap.size w w'))
        case atStart => exact ⟨(([] : List Int)), (0), (by first | rfl | (simp; done) | (simp [*]; done)), H', ⟨Nat.le_refl _⟩, ⟨by (with_reducible repeat (first | apply Kd.R_alloc | apply Kd.R_drewN | apply Kd.R_drew)); exact HO476.out⟩, ⟨by first | exact Kd.R_nil _ _ _ _ _ | exact Kd.N_nil _ _ _ _ _ | exact Kd.V_nil _ _ _ _ _ | exact Kd.Q_nil _ _ _ _ _ | exact Kd.S_nil _ _ _ _ _⟩, ⟨by (with_reducible repeat (first | apply Kd.R_alloc | apply Kd.R_drewN | apply Kd.R_drew)); exact HO476.out⟩, ⟨by repeat (first | (with_reducible first | exact HB.out | apply below_alloc | apply pw_below_drewN | apply below_drew1) | exact HB.out)⟩⟩
        case round =>
          clear H'
          try clear p2
          try clear c4
          try clear c5
          try clear c6
          try clear c9
          try clear p2
          obtain ⟨x8_2, x24_2, rfl, HA, HK2, HO_7, HO_8, HO_22, HB⟩ := hrel
          cases gk with
          | zero => exact absurd HA.out (by simp [shunt_Queues.l0])
          | succ k2 =>
            have H := HA.out
            clear HA
            simp only [shunt_Queues.l0] at H
            by_cases c13 : x24_2 < (t474.length : Int)
            · rw [if_pos c13] at H
              have c13b0 : decide (x24_2 < (t474.length : Int)) = true := decide_eq_true c13
              clear c13
              by_cases c14 : 0 ≤ x24_2
              · rw [if_pos c14] at H
                have c14b0 : decide (0 ≤ x24_2) = true := decide_eq_true c14
                clear c14
                by_cases c15 : x24_2 < (t474.length : Int)
                · rw [if_pos c15] at H
                  have c15b0 : decide (x24_2 < (t474.length : Int)) = true := decide_eq_true c15
                  clear c15
                  by_cases c16 : ((rd_T82 t474 x24_2).f0) = a1
                  · rw [if_pos c16] at H
                    have c16b0 : (((rd_T82 t474 x24_2).f0) == a1) = true := beq_iff_eq.mpr c16
                    have c16b1 : (((rd_T82 t474 x24_2).f0) != a1) = false := bne_eq_false_iff_eq.mpr c16
                    clear c16
                    have H' := Aside0.mk H
                    clear H
                    have p477 : 0 ≤ (x24_2 : Int) := of_decide_eq_true (by first | (with_reducible assumption) | assumption)
                    have q477 : x24_2 < (t474.length : Int) := of_decide_eq_true (by first | (with_reducible assumption) | assumption)
                    obtain ⟨ad477, e477, hx477_0, hx477_1⟩ := at_T82 (Kd.R_reads' HO_22.out).2.2 x24_2 p477 q477
                    cases e477
                    replace p477 := eq_true p477
                    replace q477 := eq_true q477
                    go_wp2_with (first | ((with_reducible refine gate_dst (N := 10) rfl ?_); refine box_event ?hg (N := 10) ?hd (cs := #[.int .i64 0, .int .i64 0]) (t := 82) ?hr ?_; (case hd => rfl); (case hg => rfl); (case hr => first | (go_simp; done) | (go_simp; rfl)); intro gb478 hg w17 hbox hb; have n0_ := Aside0.mk (Kd.R_below (Kd.R_elderB (by (with_reducible repeat (first | apply Kd.R_alloc | apply Kd.R_drewN | apply Kd.R_drew)); exact HO_7.out) gb478 (Nat.le_of_eq hg.symm)) hb); have n1_ := Aside0.mk (Kd.R_below (by (with_reducible repeat (first | apply Kd.R_alloc | apply Kd.R_drewN | apply Kd.R_drew)); exact HO_8.out) hb); have n2_ := Aside0.mk (Kd.R_below (Kd.R_elderB (by (with_reducible repeat (first | apply Kd.R_alloc | apply Kd.R_drewN | apply Kd.R_drew)); exact HO_22.out) gb478 (Nat.le_of_eq hg.symm)) hb); have n3_ := Aside0.mk (below_step (by repeat (first | (with_reducible first | exact HB.out | apply below_alloc | apply pw_below_drewN | apply below_drew1) | exact HB.out)) hb); have n4_ := Aside0.mk (hbox); have n5_ := Aside0.mk ((by rw [hg]; exact (below_size (by repeat (first | (with_reducible first | exact HB.out | apply below_alloc | apply pw_below_drewN | apply below_drew1) | exact HB.out))) : w.heap.size ≤ gb478)); have n6_ := Aside0.mk ((by rw [hg]; exact (below_size (by repeat (first | (with_reducible first | exact HB.out | apply below_alloc | apply pw_below_drewN | apply below_drew1) | exact HB.out))) : w.heap.size ≤ gb478)); clear HO_7; clear HO_8; clear HO_22; clear HB; have HO_7 := n0_; have HO_8 := n1_; have HO_22 := n2_; have HB := n3_; have BK478 := n4_; have GW478 := n5_; have GE478 := n6_; clear n0_ n1_ n2_ n3_ n4_ n5_ n6_; clear hb hbox hg; have hcz18_0 : w17.cell? ⟨gb478, 0, none⟩ = some (.int .i64 0) := (blk_cell BK478.out 0).trans rfl; have hcz18_1 : w17.cell? ⟨gb478, 1, none⟩ = some (.int .i64 0) := (blk_cell BK478.out 1).trans rfl; have hfz18_0 := blk_frozen BK478.out 0; have hfz18_1 := blk_frozen BK478.out 1))
                    go_loopg [9, 11] k2 (fun kq v9 v11 w' => ∃ (x9_3 : Int) (x11_3 : List Int), v9 = .int .i64 x9_3 ∧ Aside0 (shunt_Queues.l1 kq t474 x9_3 x11_3 = some (r1, r2, r3)) ∧ Aside0 (kq ≤ k2) ∧ Aside0 (Kd.R k82 82 w' w.heap.size (fun k_ => k_ ≠ gb478) (.slice (some ad477) t474.length co12) t474) ∧ Aside0 (Kd.R (Kd.int .i64) 3 w' w.heap.size (fun _ => True) v11 x11_3) ∧ Aside0 (w'.heap[gb478]? = some (.cells #[.int .i64 ((rd_T82 t474 x24_2).f0), .int .i64 ((rd_T82 t474 x24_2).f1)] 82 (0, 0))) ∧ Aside0 (Below w.heap.size w w'))
                    case atStart => exact ⟨(x24_2), (([] : List Int)), (by first | rfl | (simp; done) | (simp [*]; done)), H', ⟨Nat.le_refl _⟩, ⟨by (with_reducible repeat (first | apply Kd.R_alloc | apply Kd.R_drewN | apply Kd.R_drew)); exact Kd.R_mono (Kd.R_far (p := ⟨gb478, 1, none⟩) (Kd.R_far (p := ⟨gb478, 0, none⟩) (Kd.R_mono HO_7.out (fun k_ hk => (⟨hk, hk.2⟩ : _ ∧ k_ ≠ gb478))) (fun _ hk => hk.2) (.int .i64 ((rd_T82 t474 x24_2).f0))) (fun _ hk => hk.2) (.int .i64 ((rd_T82 t474 x24_2).f1))) (fun _ hk => hk.1.2)⟩, ⟨by first | exact Kd.R_nil _ _ _ _ _ | exact Kd.N_nil _ _ _ _ _ | exact Kd.V_nil _ _ _ _ _ | exact Kd.Q_nil _ _ _ _ _ | exact Kd.S_nil _ _ _ _ _⟩, ⟨by (with_reducible repeat (first | refine blk_drewN ?_ _ | refine blk_drew ?_ | refine blk_alloc ?_ _)); refine blk_put (cs := #[.int .i64 ((rd_T82 t474 x24_2).f0), .int .i64 0]) ?_ 1 _ rfl; (with_reducible repeat (first | refine blk_drewN ?_ _ | refine blk_drew ?_ | refine blk_alloc ?_ _)); refine blk_put (cs := #[.int .i64 0, .int .i64 0]) ?_ 0 _ rfl; (with_reducible repeat (first | refine blk_drewN ?_ _ | refine blk_drew ?_ | refine blk_alloc ?_ _)); exact BK478.out⟩, ⟨by repeat (first | (with_reducible first | exact HB.out | apply below_alloc | apply pw_below_drewN | apply below_drew1 | refine below_set ?_ GE478.out) | exact HB.out)⟩⟩
                    case round =>
                      clear H'
                      try clear c1
                      try clear p2
                      try clear c4
                      try clear p4
                      try clear q4
                      try clear hx4
                      try clear c5
                      try clear c6
                      try clear c9
                      try clear c13
                      try clear c13b0
                      try clear c14
                      try clear c14b0
                      try clear c15
                      try clear c15b0
                      try clear c16
                      try clear c16b0
                      try clear c16b1
                      try clear hcz18_0
                      try clear hcz18_1
                      try clear hfz18_0
                      try clear hfz18_1
                      try clear hx477_0
                      try clear hx477_1
                      try clear p2
                      try clear p477
                      try clear q477
                      obtain ⟨x9_3, x11_3, rfl, HA, HK3, HO_7, HO_11, BK478, HB⟩ := hrel
                      cases gk with
                      | zero => exact absurd HA.out (by simp [shunt_Queues.l1])
                      | succ k3 =>
                        have H := HA.out
                        clear HA
                        simp only [shunt_Queues.l1] at H
                        by_cases c19 : x9_3 ≥ 0
                        · rw [if_pos c19] at H
                          have c19b0 : decide (0 ≤ x9_3) = true := decide_eq_true c19
                          clear c19
                          by_cases c20 : x11_3.length < 17592186044416
                          · rw [if_pos c20] at H
                            have LMc20 := Aside0.mk c20
                            clear c20
                            obtain ⟨y479, hy479⟩ : ∃ y_ : List Int, y_ = (x11_3 ++ [x9_3]) := ⟨_, rfl⟩
                            replace H : (if 0 ≤ x9_3 then (if x9_3 < (t474.length : Int) then (shunt_Queues.l1 k3 t474 ((rd_T82 t474 x9_3).f1) y479) else (none)) else (none)) = some (r1, r2, r3) := by first | (rw [hy479]; with_reducible exact H) | (have H2_ := (Option.bind_some _ _).symm.trans H; rw [hy479]; with_reducible exact H2_) | (have H2_ := (Option.bind_some _ _).symm.trans H; with_reducible exact H2_) | with_reducible exact H | (rw [hy479]; exact H) | exact H
                            have Ny479 := Aside0.mk hy479
                            clear hy479
                            by_cases c21 : 0 ≤ x9_3
                            · rw [if_pos c21] at H
                              have c21b0 : decide (0 ≤ x9_3) = true := decide_eq_true c21
                              clear c21
                              by_cases c22 : x9_3 < (t474.length : Int)
                              · rw [if_pos c22] at H
                                have c22b0 : decide (x9_3 < (t474.length : Int)) = true := decide_eq_true c22
                                clear c22
                                have H' := Aside0.mk H
                                clear H
                                go_wp2_with (first | ((with_reducible refine gate_builtin (b := .append) (xs := #[.tmp 40, .tmp 42]) rfl ?_); at_builtin; refine Kd.R_append (Kd.int .i64) (w0 := w) w.heap.size rfl (.tmp 40) (.tmp 42) 22 3 (.int .i64 0) 8 rfl Try.underlying22 info3 rfl (by decide) (by omega) u11 x11_3 x9_3 [.int .i64 x9_3] (fun _ => True) (fun _ => False) rfl rfl ?aP (fun _ hk => hk.elim) ?aF ?aO ?aB ?aS ?aL ?_; (case aP => exact rfl); (case aB => exact (by repeat (first | (with_reducible first | exact HB.out | apply below_alloc | apply pw_below_drewN | apply below_drew1 | refine below_set ?_ GE478.out) | exact HB.out))); (case aF => exact (fun _ _ => trivial)); (case aO => exact (by (with_reducible repeat (first | apply Kd.R_alloc | apply Kd.R_drewN | apply Kd.R_drew)); exact HO_11.out)); (case aS => exact (below_size (by repeat (first | (with_reducible first | exact HB.out | apply below_alloc | apply pw_below_drewN | apply below_drew1 | refine below_set ?_ GE478.out) | exact HB.out)))); (case aL => have := LMc20.out; omega); intro v480 w23 ho hb hg hat; rw [← Ny479.out] at ho; have n0_ := Aside0.mk (Kd.R_over' (by (with_reducible repeat (first | apply Kd.R_alloc | apply Kd.R_drewN | apply Kd.R_drew)); exact HO_7.out) (Kd.R_typed (by (with_reducible repeat (first | apply Kd.R_alloc | apply Kd.R_drewN | apply Kd.R_drew)); exact HO_11.out)) (by decide) hg); have n1_ := Aside0.mk (blk_grown (g := gb478) (o := .cells #[.int .i64 ((rd_T82 t474 x24_2).f0), .int .i64 ((rd_T82 t474 x24_2).f1)] 82 (0, 0)) (by (with_reducible repeat (first | refine blk_drewN ?_ _ | refine blk_drew ?_ | refine blk_alloc ?_ _)); exact BK478.out) hg (Kd.R_ne HO_11.out BK478.out (by decide))); have n2_ := Aside0.mk (hb); have n3_ := Aside0.mk (ho); clear HO_7; clear BK478; clear HB; clear HO_11; have HO_7 := n0_; have BK478 := n1_; have HB := n2_; have HO481 := n3_; clear n0_ n1_ n2_ n3_; clear ho hb hg hat; have p482 : 0 ≤ (x9_3 : Int) := of_decide_eq_true (by first | (with_reducible assumption) | assumption); have q482 : x9_3 < (t474.length : Int) := of_decide_eq_true (by first | (with_reducible assumption) | assumption); obtain ⟨ad482, e482, hx482_0, hx482_1⟩ := at_T82 (Kd.R_reads' HO_7.out).2.2 x9_3 p482 q482; obtain rfl : ad477 = ad482 := (by injection e482); replace p482 := eq_true p482; replace q482 := eq_true q482))
                                go_roundg k3
                                case measure => have := HJ2.out; have := HK2.out; have := HK3.out; omega
                                case rel => exact ⟨((rd_T82 t474 x9_3).f1), (y479), (by first | rfl | (simp; done) | (simp [*]; done)), H', ⟨by have := HJ2.out; have := HK2.out; have := HK3.out; omega⟩, ⟨by (with_reducible repeat (first | apply Kd.R_alloc | apply Kd.R_drewN | apply Kd.R_drew)); exact HO_7.out⟩, ⟨by (with_reducible repeat (first | apply Kd.R_alloc | apply Kd.R_drewN | apply Kd.R_drew)); exact HO481.out⟩, ⟨by (with_reducible repeat (first | refine blk_drewN ?_ _ | refine blk_drew ?_ | refine blk_alloc ?_ _)); exact BK478.out⟩, ⟨by repeat (first | (with_reducible first | exact HB.out | apply below_alloc | apply pw_below_drewN | apply below_drew1 | refine below_set ?_ GE478.out) | exact HB.out)⟩⟩
                              · rw [if_neg c22] at H
                                exact absurd H (by simp)
                            · rw [if_neg c21] at H
                              exact absurd H (by simp)
                          · rw [if_neg c20] at H
                            exact absurd H (by simp)
                        · rw [if_neg c19] at H
                          have c19b0 : decide (0 ≤ x9_3) = false := decide_eq_false c19
                          clear c19
                          replace H := Option.bind_eq_some_iff.mp H
                          obtain ⟨t483, A240, H⟩ := H
                          replace H : (some (([] : List Int), t483, 0)) = some (r1, r2, r3) := H
                          have A24 := Aside0.mk A240
                          clear A240
                          simp only [Option.some.injEq, Prod.mk.injEq] at H
                          obtain ⟨rfl, rfl, rfl⟩ := H
                          obtain ⟨Ao25, co25, eo25⟩ := Kd.R_slice HO_11.out
                          subst eo25
                          go_wp2_with (first | ((with_reducible refine gate_callee (f := 68) rfl ?_); refine goesL_ (some 45) rfl rfl Try.func68 (by kernel_rfl) rfl #[.slice Ao25 x11_3.length co25] rfl (by (try simp only [List.map_toArray, List.map_cons, List.map_nil]); first | done | rfl | (simp only [List.length_drop, List.length_take]; rfl)) ?_; (with_reducible refine (slices_Reverse_int_int.calls k3 (fun k_ => some k_ = (.slice Ao25 x11_3.length co25 : Value).ownBlock) (.slice Ao25 x11_3.length co25) x11_3 t483 w _ ?side1 ?side2 A24.out).mono ?_); (case side1 => repeat (first | (with_reducible first | exact HB.out | apply below_alloc | apply pw_below_drewN | apply below_drew1 | refine below_set ?_ GE478.out) | exact HB.out)); (case side2 => exact Kd.R_tight rfl HO_11.out); rintro e w26 ⟨rfl, hy0, hb, hkp⟩; refine ⟨_, rfl, ?_⟩; have n0_ := Aside0.mk (Kd.R_mono (ok' := fun k_ => k_ ≠ gb478) (Kd.R_keptB ((Kd.R_apart' HO_7.out (Kd.R_typed HO_11.out) (by decide))) hkp (fun k_ hk_ hs_ => (hk_.2) hs_)) (fun k_ hk_ => hk_.1.1)); have n1_ := Aside0.mk (Kd.R_reok rfl hy0 (fun k_ e_ => HO_11.out.1 k_ e_)); have n2_ := Aside0.mk (blk_kept (by (with_reducible repeat (first | refine blk_drewN ?_ _ | refine blk_drew ?_ | refine blk_alloc ?_ _)); exact BK478.out) hkp (fun hs_ => (fun e_ => (Kd.R_ne HO_11.out BK478.out (by decide)) e_) hs_)); have n3_ := Aside0.mk (hb); clear HO_7; clear HO_11; clear BK478; clear HB; have HO_7 := n0_; have HO_11 := n1_; have BK478 := n2_; have HB := n3_; clear n0_ n1_ n2_ n3_; (try clear hb); (try clear hkp); (try clear hy0)))
                          go_ret3
                          exact ⟨_, _, by first | rfl | (simp [errW_none, errW_some] <;> rfl) | (simp [*, errW_none, errW_some] <;> rfl), by first | exact Kd.R_nil _ _ _ _ _ | exact Kd.N_nil _ _ _ _ _ | exact Kd.V_nil _ _ _ _ _ | exact Kd.Q_nil _ _ _ _ _ | exact Kd.S_nil _ _ _ _ _, by (with_reducible repeat (first | apply Kd.R_alloc | apply Kd.R_drewN | apply Kd.R_drew)); exact Kd.R_mono HO_11.out (fun _ hk => (by simp [Value.ownBlock])), by repeat (first | (with_reducible first | exact HB.out | apply below_alloc | apply pw_below_drewN | apply below_drew1 | refine below_set ?_ GE478.out) | exact HB.out)⟩
                  · rw [if_neg c16] at H
                    have c16b0 : (((rd_T82 t474 x24_2).f0) == a1) = false := beq_eq_false_iff_ne.mpr c16
                    have c16b1 : (((rd_T82 t474 x24_2).f0) != a1) = true := bne_iff_ne.mpr c16
                    by_cases c27 : x8_2.length < 17592186044416
                    · rw [if_pos c27] at H
                      have LMc27 := Aside0.mk c27
                      clear c27
                      obtain ⟨y484, hy484⟩ : ∃ y_ : List Int, y_ = (x8_2 ++ [(rd_T82 t474 x24_2).f0]) := ⟨_, rfl⟩
                      replace H : (shunt_Queues.l0 k2 a1 t474 y484 t474 (t474.length : Int) (wrap64 (x24_2 + 1))) = some (r1, r2, r3) := by first | (rw [hy484]; with_reducible exact H) | (have H2_ := (Option.bind_some _ _).symm.trans H; rw [hy484]; with_reducible exact H2_) | (have H2_ := (Option.bind_some _ _).symm.trans H; with_reducible exact H2_) | with_reducible exact H | (rw [hy484]; exact H) | exact H
                      have Ny484 := Aside0.mk hy484
                      clear hy484
                      have H' := Aside0.mk H
                      clear H
                      have p477 : 0 ≤ (x24_2 : Int) := of_decide_eq_true (by first | (with_reducible assumption) | assumption)
                      have q477 : x24_2 < (t474.length : Int) := of_decide_eq_true (by first | (with_reducible assumption) | assumption)
                      obtain ⟨ad477, e477, hx477_0, hx477_1⟩ := at_T82 (Kd.R_reads' HO_22.out).2.2 x24_2 p477 q477
                      cases e477
                      replace p477 := eq_true p477
                      replace q477 := eq_true q477
                      go_wp2_with (first | ((with_reducible refine gate_dst (N := 10) rfl ?_); refine box_event ?hg (N := 10) ?hd (cs := #[.int .i64 0, .int .i64 0]) (t := 82) ?hr ?_; (case hd => rfl); (case hg => rfl); (case hr => first | (go_simp; done) | (go_simp; rfl)); intro gb478 hg w28 hbox hb; have n0_ := Aside0.mk (Kd.R_below (Kd.R_elderB (by (with_reducible repeat (first | apply Kd.R_alloc | apply Kd.R_drewN | apply Kd.R_drew)); exact HO_7.out) gb478 (Nat.le_of_eq hg.symm)) hb); have n1_ := Aside0.mk (Kd.R_below (by (with_reducible repeat (first | apply Kd.R_alloc | apply Kd.R_drewN | apply Kd.R_drew)); exact HO_8.out) hb); have n2_ := Aside0.mk (Kd.R_below (Kd.R_elderB (by (with_reducible repeat (first | apply Kd.R_alloc | apply Kd.R_drewN | apply Kd.R_drew)); exact HO_22.out) gb478 (Nat.le_of_eq hg.symm)) hb); have n3_ := Aside0.mk (below_step (by repeat (first | (with_reducible first | exact HB.out | apply below_alloc | apply pw_below_drewN | apply below_drew1) | exact HB.out)) hb); have n4_ := Aside0.mk (hbox); have n5_ := Aside0.mk ((by rw [hg]; exact (below_size (by repeat (first | (with_reducible first | exact HB.out | apply below_alloc | apply pw_below_drewN | apply below_drew1) | exact HB.out))) : w.heap.size ≤ gb478)); have n6_ := Aside0.mk ((by rw [hg]; exact (below_size (by repeat (first | (with_reducible first | exact HB.out | apply below_alloc | apply pw_below_drewN | apply below_drew1) | exact HB.out))) : w.heap.size ≤ gb478)); clear HO_7; clear HO_8; clear HO_22; clear HB; have HO_7 := n0_; have HO_8 := n1_; have HO_22 := n2_; have HB := n3_; have BK478 := n4_; have GW478 := n5_; have GE478 := n6_; clear n0_ n1_ n2_ n3_ n4_ n5_ n6_; clear hb hbox hg; have hcz29_0 : w28.cell? ⟨gb478, 0, none⟩ = some (.int .i64 0) := (blk_cell BK478.out 0).trans rfl; have hcz29_1 : w28.cell? ⟨gb478, 1, none⟩ = some (.int .i64 0) := (blk_cell BK478.out 1).trans rfl; have hfz29_0 := blk_frozen BK478.out 0; have hfz29_1 := blk_frozen BK478.out 1) | ((with_reducible refine gate_builtin (b := .append) (xs := #[.tmp 47, .tmp 50]) rfl ?_); at_builtin; refine Kd.R_append (Kd.int .i64) (w0 := w) w.heap.size rfl (.tmp 47) (.tmp 50) 22 3 (.int .i64 0) 8 rfl Try.underlying22 info3 rfl (by decide) (by omega) u8 x8_2 ((rd_T82 t474 x24_2).f0) [.int .i64 ((rd_T82 t474 x24_2).f0)] (fun _ => True) (fun _ => False) rfl (by first | (go_simp; done) | (go_simp; rfl)) ?aP (fun _ hk => hk.elim) ?aF ?aO ?aB ?aS ?aL ?_; (case aP => exact rfl); (case aB => exact (by repeat (first | (with_reducible first | exact HB.out | apply below_alloc | apply pw_below_drewN | apply below_drew1 | refine below_set ?_ GE478.out) | exact HB.out))); (case aF => exact (fun _ _ => trivial)); (case aO => exact (by (with_reducible repeat (first | apply Kd.R_alloc | apply Kd.R_drewN | apply Kd.R_drew)); exact Kd.R_mono (Kd.R_far (p := ⟨gb478, 1, none⟩) (Kd.R_far (p := ⟨gb478, 0, none⟩) (Kd.R_types HO_8.out BK478.out (by decide)) (fun _ hk => hk.2) (.int .i64 ((rd_T82 t474 x24_2).f0))) (fun _ hk => hk.2) (.int .i64 ((rd_T82 t474 x24_2).f1))) (fun _ hk => trivial))); (case aS => exact (below_size (by repeat (first | (with_reducible first | exact HB.out | apply below_alloc | apply pw_below_drewN | apply below_drew1 | refine below_set ?_ GE478.out) | exact HB.out)))); (case aL => have := LMc27.out; omega); intro v485 w30 ho hb hg hat; rw [← Ny484.out] at ho; have n0_ := Aside0.mk (Kd.R_over' (by (with_reducible repeat (first | apply Kd.R_alloc | apply Kd.R_drewN | apply Kd.R_drew)); exact (Kd.R_mono (Kd.R_far (p := ⟨gb478, 1, none⟩) (Kd.R_far (p := ⟨gb478, 0, none⟩) (Kd.R_mono HO_7.out (fun k_ hk => (⟨hk, hk.2⟩ : _ ∧ k_ ≠ gb478))) (fun _ hk => hk.2) (.int .i64 ((rd_T82 t474 x24_2).f0))) (fun _ hk => hk.2) (.int .i64 ((rd_T82 t474 x24_2).f1))) (fun _ h_ => h_.1))) (Kd.R_typed (by (with_reducible repeat (first | apply Kd.R_alloc | apply Kd.R_drewN | apply Kd.R_drew)); exact (Kd.R_mono (Kd.R_far (p := ⟨gb478, 1, none⟩) (Kd.R_far (p := ⟨gb478, 0, none⟩) (Kd.R_types HO_8.out BK478.out (by decide)) (fun _ hk => hk.2) (.int .i64 ((rd_T82 t474 x24_2).f0))) (fun _ hk => hk.2) (.int .i64 ((rd_T82 t474 x24_2).f1))) (fun _ h_ => h_.1)))) (by decide) hg); have n1_ := Aside0.mk (Kd.R_over' (by (with_reducible repeat (first | apply Kd.R_alloc | apply Kd.R_drewN | apply Kd.R_drew)); exact (Kd.R_mono (Kd.R_far (p := ⟨gb478, 1, none⟩) (Kd.R_far (p := ⟨gb478, 0, none⟩) (Kd.R_mono HO_22.out (fun k_ hk => (⟨hk, hk.2⟩ : _ ∧ k_ ≠ gb478))) (fun _ hk => hk.2) (.int .i64 ((rd_T82 t474 x24_2).f0))) (fun _ hk => hk.2) (.int .i64 ((rd_T82 t474 x24_2).f1))) (fun _ h_ => h_.1))) (Kd.R_typed (by (with_reducible repeat (first | apply Kd.R_alloc | apply Kd.R_drewN | apply Kd.R_drew)); exact (Kd.R_mono (Kd.R_far (p := ⟨gb478, 1, none⟩) (Kd.R_far (p := ⟨gb478, 0, none⟩) (Kd.R_types HO_8.out BK478.out (by decide)) (fun _ hk => hk.2) (.int .i64 ((rd_T82 t474 x24_2).f0))) (fun _ hk => hk.2) (.int .i64 ((rd_T82 t474 x24_2).f1))) (fun _ h_ => h_.1)))) (by decide) hg); have n2_ := Aside0.mk (blk_grown (g := gb478) (o := .cells #[.int .i64 ((rd_T82 t474 x24_2).f0), .int .i64 ((rd_T82 t474 x24_2).f1)] 82 (0, 0)) (by (with_reducible repeat (first | refine blk_drewN ?_ _ | refine blk_drew ?_ | refine blk_alloc ?_ _)); refine blk_put (cs := #[.int .i64 ((rd_T82 t474 x24_2).f0), .int .i64 0]) ?_ 1 _ rfl; (with_reducible repeat (first | refine blk_drewN ?_ _ | refine blk_drew ?_ | refine blk_alloc ?_ _)); refine blk_put (cs := #[.int .i64 0, .int .i64 0]) ?_ 0 _ rfl; (with_reducible repeat (first | refine blk_drewN ?_ _ | refine blk_drew ?_ | refine blk_alloc ?_ _)); exact BK478.out) hg (Kd.R_ne HO_8.out BK478.out (by decide))); have n3_ := Aside0.mk (hb); have n4_ := Aside0.mk (ho); clear HO_7; clear HO_22; clear BK478; clear HB; clear HO_8; have HO_7 := n0_; have HO_22 := n1_; have BK478 := n2_; have HB := n3_; have HO486 := n4_; clear n0_ n1_ n2_ n3_ n4_; clear ho hb hg hat))
                      go_roundg k2
                      case measure => have := HJ2.out; have := HK2.out; omega
                      case rel => exact ⟨(y484), (wrap64 (x24_2 + 1)), (by first | rfl | (simp; done) | (simp [*]; done)), H', ⟨by have := HJ2.out; have := HK2.out; omega⟩, ⟨by (with_reducible repeat (first | apply Kd.R_alloc | apply Kd.R_drewN | apply Kd.R_drew)); exact Kd.R_mono HO_7.out (fun _ hk => trivial)⟩, ⟨by (with_reducible repeat (first | apply Kd.R_alloc | apply Kd.R_drewN | apply Kd.R_drew)); exact HO486.out⟩, ⟨by (with_reducible repeat (first | apply Kd.R_alloc | apply Kd.R_drewN | apply Kd.R_drew)); exact Kd.R_mono HO_22.out (fun _ hk => trivial)⟩, ⟨by repeat (first | (with_reducible first | exact HB.out | apply below_alloc | apply pw_below_drewN | apply below_drew1 | refine below_set ?_ GE478.out) | exact HB.out)⟩⟩
                    · rw [if_neg c27] at H
                      exact absurd H (by simp)
                · rw [if_neg c15] at H
                  exact absurd H (by simp)
              · rw [if_neg c14] at H
                exact absurd H (by simp)
            · rw [if_neg c13] at H
              have c13b0 : decide (x24_2 < (t474.length : Int)) = false := decide_eq_false c13
              clear c13
              simp only [Option.some.injEq, Prod.mk.injEq] at H
              obtain ⟨rfl, rfl, rfl⟩ := H
              go_wp2
              go_ret3
              exact ⟨_, _, by first | rfl | (simp [errW_none, errW_some] <;> rfl) | (simp [*, errW_none, errW_some] <;> rfl), by (with_reducible repeat (first | apply Kd.R_alloc | apply Kd.R_drewN | apply Kd.R_drew)); exact Kd.R_mono HO_8.out (fun _ hk => (by simp [Value.ownBlock])), by first | exact Kd.R_nil _ _ _ _ _ | exact Kd.N_nil _ _ _ _ _ | exact Kd.V_nil _ _ _ _ _ | exact Kd.Q_nil _ _ _ _ _ | exact Kd.S_nil _ _ _ _ _, by repeat (first | (with_reducible first | exact HB.out | apply below_alloc | apply pw_below_drewN | apply below_drew1) | exact HB.out)⟩

end Go.Proofs.Ytjbjongahnocdaa.S

namespace Go.Proofs.Ytjbjongahnocdaa.S
open Go.Proofs.Ytjbjongahnocdaa.Lib
open Go.Proofs.Ytjbjongahnocdaa.Defs
open Go.Maps (Keyed)
open Go.RowKit Go.Proofs.YtjbjongahnocdaaW.PrintWords Go.Proofs.YtjbjongahnocdaaW.PrintLast Go.Proofs.YtjbjongahnocdaaW.PrintMore
attribute [local go_sem] max2_int min2_int max_two min_two max_three min_three max_four min_four   -- for this text's walks alone
set_option linter.unusedVariables false
set_option linter.unusedSimpArgs false

/-! ### shunt_Pass: function 20 -/
def shunt_Pass.f (l0 : List Int) : Option (List Int × Int) :=
  if isOrderB l0 = true then some ((passGo l0 ([], [])).2 ++ (passGo l0 ([], [])).1, 0) else some ([], 2)

theorem LineIs.left {base : Nat} {w : World} {g : Nat} {its lft : List Int} (h : LineIs base w g its lft) : ∃ A c, w.cell? ⟨g, 1, none⟩ = some (.slice A lft.length c) ∧ Kd.R (Kd.int .i64) 3 w base (fun _ => True) (.slice A lft.length c) lft := by
  obtain ⟨vi, vl, hb, hg, h1, h2⟩ := h
  obtain ⟨A, c, rfl⟩ := Kd.R_slice h2
  exact ⟨A, c, (blk_cell hb 1).trans rfl, Kd.R_mono h2 (fun _ _ => trivial)⟩

set_option maxHeartbeats 2000000 in
set_option maxRecDepth 100000 in
theorem shunt_Pass.calls (A0 : Option Addr) (c0 : Nat) (l0 : List Int) (r1 : List Int) (r2 : Int) (w : World) (hr0 : Kd.C (Kd.int .i64) w A0 l0.length l0) (hc0 : l0.length ≤ c0) (h : shunt_Pass.f l0 = some (r1, r2)) :
    Calls Try.prog 20 #[.slice A0 l0.length c0] w fun e w' => ∃ v0_ : Value, e = .returned (.tuple #[v0_, .int .i64 r2]) ∧ Kd.R (Kd.int .i64) 3 w' w.heap.size (fun _ => True) v0_ r1 ∧ Below w.heap.size w w' := by
  have HR0 := Aside0.mk hr0
  have HC0 := Aside0.mk hc0
  clear hr0 hc0
  unfold shunt_Pass.f at h
  cases hord : isOrderB l0 with
  | false =>
    rw [hord, if_neg (by decide)] at h
    injection h with h
    injection h with e1 e2
    subst e1; subst e2
    have HO := Aside0.mk (shunt_isOrder.calls A0 c0 l0 false w HR0.out HC0.out (by unfold shunt_isOrder.f; rw [hord]))
    clear hord
    go_enter Try.func20, Try.ntmps20
    go_wp2_with (go_at_call 52; go_must ((with_reducible refine HO.out.mono ?_); rintro e w1 ⟨rfl, hb1⟩; have HB1 := Aside0.mk hb1; clear hb1))
    go_ret2
    exact ⟨_, rfl, Kd.R_nil _ _ _ _ _, HB1.out⟩
  | true =>
    rw [hord, if_pos rfl] at h
    have HO := Aside0.mk (shunt_isOrder.calls A0 c0 l0 true w HR0.out HC0.out (by unfold shunt_isOrder.f; rw [hord]))
    have hl60 : l0.length ≤ 60 := by
      unfold isOrderB at hord
      simp at hord
      exact hord.1
    injection h with h
    injection h with e1 e2
    subst e2
    obtain ⟨Rs, hRs⟩ : ∃ Rs, passGo l0 ([], []) = Rs := ⟨_, rfl⟩
    rw [hRs] at e1
    have H := Aside0.mk e1
    have HG := Aside0.mk hRs
    clear e1 hRs hord
    go_enter Try.func20, Try.ntmps20
    go_wp2_with (go_at_call 52; go_must ((with_reducible refine HO.out.mono ?_); rintro e w1 ⟨rfl, hb1⟩; have HB1 := Aside0.mk hb1; clear hb1))
    go_loopw [16] (fun v16 wr => ∃ (x : Int) (s lft : List Int), v16 = .int .i64 x ∧ Aside0 (0 ≤ x ∧ x ≤ l0.length ∧ (s.length : Int) + lft.length = x) ∧ Aside0 (passGo (l0.drop x.toNat) (s, lft) = Rs) ∧ Aside0 (LineIs w.heap.size wr w1.heap.size s.reverse lft) ∧ Aside0 (Below w.heap.size w wr)) (fun v16 _ => l0.length - (intOf v16).toNat)
    case atStart => exact ⟨0, [], [], rfl, ⟨by simp⟩, HG, ⟨⟨_, _, heap_alloc_new w1 _, HB1.out.size, Kd.R_nil _ _ _ _ _, Kd.R_nil _ _ _ _ _⟩⟩, ⟨below_alloc HB1.out _⟩⟩
    case round =>
      clear HG
      obtain ⟨x, s, lft, rfl, HX, HG, HL, HB⟩ := hrel
      obtain ⟨p0, p1, p2⟩ := HX.out
      have hx60 : x ≤ 60 := by omega
      by_cases c2 : x < (l0.length : Int)
      · have c2b0 : decide (x < (l0.length : Int)) = true := decide_eq_true c2
        have HG1 : passGo (rd l0 x :: l0.drop (x + 1).toNat) (s, lft) = Rs := by
          rw [← HG.out, show (x + 1).toNat = x.toNat + 1 by omega]
          unfold rd
          rw [List.getD_eq_getElem?_getD, List.getElem?_eq_getElem (show x.toNat < l0.length by omega), Option.getD_some, ← List.drop_eq_getElem_cons]
        obtain ⟨rest, hrest⟩ : ∃ rest, rest = l0.drop (x + 1).toNat := ⟨_, rfl⟩
        rw [← hrest] at HG1
        obtain ⟨ad, ea, hx⟩ := Kd.at_int (Kd.C_below HR0.out HB.out) x p0 c2
        cases ea
        obtain ⟨y, hy⟩ : ∃ y, rd l0 x = y := ⟨_, rfl⟩
        rw [hy] at HG1 hx
        have HG2 := Aside0.mk (show passGo rest (y :: (passIn y s lft).1, (passIn y s lft).2) = Rs from HG1)
        have HREST := Aside0.mk hrest
        have q0 := eq_true p0
        have q1 := eq_true c2
        have HTP := Aside0.mk (stack_top.calls w.heap.size w1.heap.size s.reverse lft wr HL.out)
        clear HG HG1 hrest c2 p2 hy
        go_wp2_with (go_at_call 56; go_must ((with_reducible refine HTP.out.mono ?_); rintro e w2 ⟨rfl, ⟨nd, rfl⟩⟩))
        obtain ⟨wo, rfl⟩ : ∃ wo : World, wo = wr := ⟨_, rfl⟩
        go_loopg [7, 8] (s.length) (fun kq v7 v8 wr => ∃ (s' lft' : List Int), v7 = .int .i64 (s'.reverse.getLast?.getD 0) ∧ v8 = .bool (!s'.reverse.isEmpty) ∧ Aside0 (kq = s'.length) ∧ Aside0 ((s'.length : Int) + lft'.length = x) ∧ Aside0 (passGo rest (y :: (passIn y s' lft').1, (passIn y s' lft').2) = Rs) ∧ Aside0 (LineIs w.heap.size wr w1.heap.size s'.reverse lft') ∧ Aside0 (Below w.heap.size w wr))
        case atStart => exact ⟨s, lft, (by simp), (by simp), ⟨rfl⟩, ⟨HX.out.2.2⟩, HG2, ⟨HL.out.drewN _⟩, ⟨pw_below_drewN HB.out _⟩⟩
        case round =>
          clear HG2 HL HB HTP hx
          obtain ⟨s', lft', rfl, rfl, HK, HY, HG2, HL, HB⟩ := hrel
          have y0 := HY.out
          have HPU := Aside0.mk (fun n => stack_push.calls w.heap.size w1.heap.size s'.reverse lft' y (wr.drewN n) (HL.out.drewN n) (by simp; omega) HB.out.size)
          have HPU0 := Aside0.mk (stack_push.calls w.heap.size w1.heap.size s'.reverse lft' y wr HL.out (by simp; omega) HB.out.size)
          simp only [← List.reverse_cons] at HPU HPU0
          have CONT : ∀ wz, passGo rest (y :: s', lft') = Rs → LineIs w.heap.size wz w1.heap.size (y :: s').reverse lft' → Turn w.heap.size wr wz → ∃ (x' : Int) (s lft : List Int), (Value.int .i64 (x + 1)) = .int .i64 x' ∧ Aside0 (0 ≤ x' ∧ x' ≤ l0.length ∧ (s.length : Int) + lft.length = x') ∧ Aside0 (passGo (l0.drop x'.toNat) (s, lft) = Rs) ∧ Aside0 (LineIs w.heap.size wz w1.heap.size s.reverse lft) ∧ Aside0 (Below w.heap.size w wz) := fun wz e1 e2 e4 =>
            ⟨x + 1, y :: s', lft', rfl, ⟨by have := of_eq_true q1; simp; omega⟩, ⟨by rw [← HREST.out]; exact e1⟩, ⟨e2⟩, ⟨Turn.below HB.out HB.out.size e4⟩⟩
          have CT := Aside0.mk CONT
          clear CONT
          cases s' with
          | nil =>
            have HG3 := Aside0.mk (show passGo rest ([y], lft') = Rs from HG2.out)
            clear HG2 y0
            go_wp2_with (go_at_call 58; go_must ((with_reducible refine HPU0.out.mono ?_); rintro e w2 ⟨rfl, hL2, hT2⟩; have HL2 := Aside0.mk hL2; have HT2 := Aside0.mk hT2; clear hL2 hT2))
            go_roundw
            case rel => exact CT.out _ HG3.out HL2.out HT2.out
            case measure => have := of_eq_true q1; simp [intOf]; omega
          | cons a t =>
            have e8 : (a :: t).reverse.getLast?.getD 0 = a := by simp
            have e9 : (a :: t).reverse.isEmpty = false := by simp
            rw [e8, e9]
            by_cases c4 : a < y
            · have c4b : decide (a < y) = true := decide_eq_true c4
              have HG3 := Aside0.mk (show passGo rest (y :: (passIn y t (lft' ++ [a])).1, (passIn y t (lft' ++ [a])).2) = Rs by
                have := HG2.out
                unfold passIn at this
                rw [if_pos c4] at this
                exact this)
              have HLV := Aside0.mk (line_leave.calls w.heap.size w1.heap.size (a :: t).reverse lft' wr HL.out (by omega) HB.out.size)
              have e5 : (a :: t).reverse.dropLast = t.reverse := by simp
              have e6 : (if (a :: t).reverse.isEmpty then lft' else lft' ++ [(a :: t).reverse.getLast?.getD 0]) = lft' ++ [a] := by simp
              rw [e5, e6, e9] at HLV
              have HY2 := Aside0.mk (show (t.length : Int) + (lft' ++ [a]).length = x by simp at y0 ⊢; omega)
              clear HG2 y0 c4 e5 e6 e8 e9
              go_wp2_with (first | (go_at_call 57; go_must ((with_reducible refine HLV.out.mono ?_); rintro e w2 ⟨rfl, hL2, hT2⟩; have HL2 := Aside0.mk hL2; have HB2 := Aside0.mk (Turn.below HB.out HB.out.size hT2); have HT3 := Aside0.mk (stack_top.calls w.heap.size w1.heap.size t.reverse (lft' ++ [a]) w2 hL2); clear hL2 hT2)) | (go_at_call 56; go_must ((with_reducible refine HT3.out.mono ?_); rintro e w2 ⟨rfl, ⟨nd, rfl⟩⟩)))
              go_roundg (t.length)
              case measure => have := HK.out; simp at this; omega
              case rel => exact ⟨t, lft' ++ [a], (by simp), (by simp), ⟨rfl⟩, HY2, HG3, ⟨HL2.out.drewN _⟩, ⟨pw_below_drewN HB2.out _⟩⟩
            · have c4b : decide (a < y) = false := decide_eq_false c4
              have HG3 := Aside0.mk (show passGo rest (y :: a :: t, lft') = Rs by
                have := HG2.out
                unfold passIn at this
                rw [if_neg c4] at this
                exact this)
              clear HG2 y0 c4 e8 e9
              go_wp2_with (go_at_call 58; go_must ((with_reducible refine HPU0.out.mono ?_); rintro e w2 ⟨rfl, hL2, hT2⟩; have HL2 := Aside0.mk hL2; have HT2 := Aside0.mk hT2; clear hL2 hT2))
              go_roundw
              case rel => exact CT.out _ HG3.out HL2.out HT2.out
              case measure => have := of_eq_true q1; simp [intOf]; omega
      · have c2b0 : decide (x < (l0.length : Int)) = false := decide_eq_false c2
        have hst : Rs = (s, lft) := by
          rw [← HG.out, List.drop_eq_nil_of_le (by omega)]
          rfl
        subst hst
        have hres : lft ++ s = r1 := H.out
        have HRS := Aside0.mk hres
        have HSZ := Aside0.mk p2
        clear hres H c2 HG p2
        go_wp2
        obtain ⟨wo, rfl⟩ : ∃ wo : World, wo = wr := ⟨_, rfl⟩
        go_loopg [49] (s.length) (fun kq v49 wr => ∃ (s' lft' : List Int), Aside0 (kq = s'.length) ∧ Aside0 ((s'.length : Int) + lft'.length = x) ∧ Aside0 (lft' ++ s' = r1) ∧ Aside0 (LineIs w.heap.size wr w1.heap.size s'.reverse lft') ∧ Aside0 (Below w.heap.size w wr))
        case atStart => exact ⟨s, lft, ⟨rfl⟩, HSZ, HRS, HL, HB⟩
        case round =>
          clear HRS HL HB HSZ
          obtain ⟨s', lft', HK, HY, HG2, HL, HB⟩ := hrel
          have y0 := HY.out
          have HLV := Aside0.mk (line_leave.calls w.heap.size w1.heap.size s'.reverse lft' wr HL.out (by omega) HB.out.size)
          cases s' with
          | nil =>
            have hr : lft' = r1 := by simpa using HG2.out
            subst hr
            have e5 : ([] : List Int).reverse.dropLast = [] := rfl
            have e6 : (if ([] : List Int).reverse.isEmpty then lft' else lft' ++ [([] : List Int).reverse.getLast?.getD 0]) = lft' := by simp
            have e7 : ([] : List Int).reverse.isEmpty = true := rfl
            rw [e5, e6, e7] at HLV
            clear HG2 y0 e5 e6 e7
            go_wp2_with (go_at_call 57; go_must ((with_reducible refine HLV.out.mono ?_); rintro e w2 ⟨rfl, hL2, hT2⟩; obtain ⟨A, c, hlc, hR⟩ := hL2.left; have HR3 := Aside0.mk hR; have HB2 := Aside0.mk (Turn.below HB.out HB.out.size hT2); clear hL2 hT2 hR))
            go_ret2
            exact ⟨_, rfl, HR3.out, HB2.out⟩
          | cons a t =>
            have e5 : (a :: t).reverse.dropLast = t.reverse := by simp
            have e6 : (if (a :: t).reverse.isEmpty then lft' else lft' ++ [(a :: t).reverse.getLast?.getD 0]) = lft' ++ [a] := by simp
            have e9 : (a :: t).reverse.isEmpty = false := by simp
            rw [e5, e6, e9] at HLV
            have HY2 := Aside0.mk (show (t.length : Int) + (lft' ++ [a]).length = x by simp at y0 ⊢; omega)
            have HG3 := Aside0.mk (show (lft' ++ [a]) ++ t = r1 by rw [← HG2.out]; simp)
            clear HG2 y0 e5 e6 e9
            go_wp2_with (go_at_call 57; go_must ((with_reducible refine HLV.out.mono ?_); rintro e w2 ⟨rfl, hL2, hT2⟩; have HL2 := Aside0.mk hL2; have HB2 := Aside0.mk (Turn.below HB.out HB.out.size hT2); clear hL2 hT2))
            go_roundg (t.length)
            case measure => have := HK.out; simp at this; omega
            case rel => exact ⟨t, lft' ++ [a], ⟨rfl⟩, HY2, HG3, HL2, HB2⟩


end Go.Proofs.Ytjbjongahnocdaa.S

namespace Go.Proofs.Ytjbjongahnocdaa.S
open Go.Proofs.Ytjbjongahnocdaa.Lib
open Go.Proofs.Ytjbjongahnocdaa.Defs
open Go.Maps (Keyed)
open Go.RowKit Go.Proofs.YtjbjongahnocdaaW.PrintWords Go.Proofs.YtjbjongahnocdaaW.PrintLast Go.Proofs.YtjbjongahnocdaaW.PrintMore
attribute [local go_sem] max2_int min2_int max_two min_two max_three min_three max_four min_four   -- for this text's walks alone
set_option linter.unusedVariables false
set_option linter.unusedSimpArgs false

/-! ### tickingref02_Pass: function 24 -/
mutual
def tickingref02_Pass.l0 : Nat → List Int → List Int → List Int → Int → Option (List Int)
  | 0, _, _, _, _ => none
  | k + 1, x0, x3, x4, x5 => if x5 < (x0.length : Int) then (tickingref02_Pass.l1 k x0 x3 x4 x5) else (tickingref02_Pass.l2 k x3 x4 (wrap64 ((x4.length : Int) - 1)))
def tickingref02_Pass.l1 : Nat → List Int → List Int → List Int → Int → Option (List Int)
  | 0, _, _, _, _ => none
  | k + 1, x0, x3, x4, x5 => if (x4.length : Int) > 0 then (if 0 ≤ (wrap64 ((x4.length : Int) - 1)) then (if (wrap64 ((x4.length : Int) - 1)) < (x4.length : Int) then (if 0 ≤ x5 then (if x5 < (x0.length : Int) then (if (rd x4 (wrap64 ((x4.length : Int) - 1))) < (rd x0 x5) then (if x3.length < 17592186044416 then (if (wrap64 ((x4.length : Int) - 1)) ≤ (x4.length : Int) then (tickingref02_Pass.l1 k x0 (x3 ++ [rd x4 (wrap64 ((x4.length : Int) - 1))]) (x4.take ((wrap64 ((x4.length : Int) - 1)) : Int).toNat) x5) else (none)) else (none)) else (if x4.length < 17592186044416 then (tickingref02_Pass.l0 k x0 x3 (x4 ++ [rd x0 x5]) (wrap64 (x5 + 1))) else (none))) else (none)) else (none)) else (none)) else (none)) else (if 0 ≤ x5 then (if x5 < (x0.length : Int) then (if x4.length < 17592186044416 then (tickingref02_Pass.l0 k x0 x3 (x4 ++ [rd x0 x5]) (wrap64 (x5 + 1))) else (none)) else (none)) else (none))
def tickingref02_Pass.l2 : Nat → List Int → List Int → Int → Option (List Int)
  | 0, _, _, _ => none
  | k + 1, x3, x4, x6 => if x6 ≥ 0 then (if 0 ≤ x6 then (if x6 < (x4.length : Int) then (if x3.length < 17592186044416 then (tickingref02_Pass.l2 k (x3 ++ [rd x4 x6]) x4 (wrap64 (x6 - 1))) else (none)) else (none)) else (none)) else (some x3)
end
def tickingref02_Pass.f (k : Nat) (l0 : List Int) : Option (List Int) := tickingref02_Pass.l0 k l0 ([] : List Int) ([] : List Int) 0
theorem tickingref02_Pass.mono_l : ∀ k, (∀ y0 y1 y2 y3, LeO (tickingref02_Pass.l0 k y0 y1 y2 y3) (tickingref02_Pass.l0 (k + 1) y0 y1 y2 y3)) ∧ (∀ y0 y1 y2 y3, LeO (tickingref02_Pass.l1 k y0 y1 y2 y3) (tickingref02_Pass.l1 (k + 1) y0 y1 y2 y3)) ∧ (∀ y0 y1 y2, LeO (tickingref02_Pass.l2 k y0 y1 y2) (tickingref02_Pass.l2 (k + 1) y0 y1 y2))
  | 0 => ⟨fun _ _ _ _ r h => by simp [tickingref02_Pass.l0] at h, fun _ _ _ _ r h => by simp [tickingref02_Pass.l1] at h, fun _ _ _ r h => by simp [tickingref02_Pass.l2] at h⟩
  | k + 1 => by
    obtain ⟨ih0, ih1, ih2⟩ := tickingref02_Pass.mono_l k
    refine ⟨?_, ?_, ?_⟩
    · intro y0 y1 y2 y3
      unfold tickingref02_Pass.l0
      repeat' first
      | (with_reducible exact ih0 _ _ _ _)
      | (with_reducible exact ih1 _ _ _ _)
      | (with_reducible exact ih2 _ _ _)
      | (with_reducible exact LeO.refl _)
      | (with_reducible exact LeO.none _)
      | (with_reducible refine LeO.ite ?_ ?_)
      | (with_reducible refine LeO.bind ?_ (fun _ => ?_))
      | exact ih0 _ _ _ _
      | exact ih1 _ _ _ _
      | exact ih2 _ _ _
      | exact LeO.none _
      | refine LeO.ite ?_ ?_
      | refine LeO.bind ?_ (fun _ => ?_)
    · intro y0 y1 y2 y3
      unfold tickingref02_Pass.l1
      repeat' first
      | (with_reducible exact ih0 _ _ _ _)
      | (with_reducible exact ih1 _ _ _ _)
      | (with_reducible exact ih2 _ _ _)
      | (with_reducible exact LeO.refl _)
      | (with_reducible exact LeO.none _)
      | (with_reducible refine LeO.ite ?_ ?_)
      | (with_reducible refine LeO.bind ?_ (fun _ => ?_))
      | exact ih0 _ _ _ _
      | exact ih1 _ _ _ _
      | exact ih2 _ _ _
      | exact LeO.none _
      | refine LeO.ite ?_ ?_
      | refine LeO.bind ?_ (fun _ => ?_)
    · intro y0 y1 y2
      unfold tickingref02_Pass.l2
      repeat' first
      | (with_reducible exact ih0 _ _ _ _)
      | (with_reducible exact ih1 _ _ _ _)
      | (with_reducible exact ih2 _ _ _)
      | (with_reducible exact LeO.refl _)
      | (with_reducible exact LeO.none _)
      | (with_reducible refine LeO.ite ?_ ?_)
      | (with_reducible refine LeO.bind ?_ (fun _ => ?_))
      | exact ih0 _ _ _ _
      | exact ih1 _ _ _ _
      | exact ih2 _ _ _
      | exact LeO.none _
      | refine LeO.ite ?_ ?_
      | refine LeO.bind ?_ (fun _ => ?_)
theorem tickingref02_Pass.mono : ∀ a0 k, LeO (tickingref02_Pass.f k a0) (tickingref02_Pass.f (k + 1) a0) := by
  intro a0 k
  obtain ⟨ih0, ih1, ih2⟩ := tickingref02_Pass.mono_l k
  unfold tickingref02_Pass.f
  repeat' first
      | (with_reducible exact ih0 _ _ _ _)
      | (with_reducible exact ih1 _ _ _ _)
      | (with_reducible exact ih2 _ _ _)
      | (with_reducible exact LeO.refl _)
      | (with_reducible exact LeO.none _)
      | (with_reducible refine LeO.ite ?_ ?_)
      | (with_reducible refine LeO.bind ?_ (fun _ => ?_))
      | exact ih0 _ _ _ _
      | exact ih1 _ _ _ _
      | exact ih2 _ _ _
      | exact LeO.none _
      | refine LeO.ite ?_ ?_
      | refine LeO.bind ?_ (fun _ => ?_)
set_option maxHeartbeats 8000000 in
set_option maxRecDepth 100000 in
theorem tickingref02_Pass.calls (k : Nat) (A0 : Option Addr) (c0 : Nat) (l0 : List Int) (r : List Int) (w : World) (hr0 : Kd.C (Kd.int .i64) w A0 l0.length l0) (hc0 : l0.length ≤ c0) (h : tickingref02_Pass.f k l0 = some r) :
    Calls Try.prog 24 #[.slice A0 l0.length c0] w fun e w' => ∃ v0_ : Value, e = .returned (v0_) ∧ Kd.R (Kd.int .i64) 3 w' w.heap.size (fun _ => True) v0_ r ∧ Below w.heap.size w w' := by
  have HR0 := Aside0.mk hr0
  have HC0 := Aside0.mk hc0
  clear hr0 hc0
  have HB := Aside0.mk (Below.refl w.heap.size w)
  have H : (tickingref02_Pass.l0 k l0 ([] : List Int) ([] : List Int) 0) = some r := h
  clear h
  have H' := Aside0.mk H
  clear H
  go_enter Try.func24, Try.ntmps24
  go_wp2
  repeat (go_quiet (fail); try go_wp2)
  go_loopg [3, 4, 5] k (fun kq v3 v4 v5 w' => ∃ (x3_1 : List Int) (x4_1 : List Int) (x5_1 : Int), v5 = .int .i64 x5_1 ∧ Aside0 (tickingref02_Pass.l0 kq l0 x3_1 x4_1 x5_1 = some r) ∧ Aside0 (kq ≤ k) ∧ Aside0 (Kd.R (Kd.int .i64) 3 w' w.heap.size (fun k_ => some k_ ≠ (v4 : Value).ownBlock) v3 x3_1) ∧ Aside0 (Kd.R (Kd.int .i64) 3 w' w.heap.size (fun k_ => some k_ ≠ (v3 : Value).ownBlock) v4 x4_1) ∧ Aside0 (Below w.heap.size w w'))
  case atStart => exact ⟨(([] : List Int)), (([] : List Int)), (0), (by first | rfl | (simp; done) | (simp [*]; done)), H', ⟨Nat.le_refl _⟩, ⟨by first | exact Kd.R_nil _ _ _ _ _ | exact Kd.N_nil _ _ _ _ _ | exact Kd.V_nil _ _ _ _ _ | exact Kd.Q_nil _ _ _ _ _ | exact Kd.S_nil _ _ _ _ _⟩, ⟨by first | exact Kd.R_nil _ _ _ _ _ | exact Kd.N_nil _ _ _ _ _ | exact Kd.V_nil _ _ _ _ _ | exact Kd.Q_nil _ _ _ _ _ | exact Kd.S_nil _ _ _ _ _⟩, ⟨by repeat (first | (with_reducible first | exact HB.out | apply below_alloc | apply pw_below_drewN | apply below_drew1) | exact HB.out)⟩⟩
  case round =>
    clear H'
    obtain ⟨x3_1, x4_1, x5_1, rfl, HA, HK1, HO_3, HO_4, HB⟩ := hrel
    cases gk with
    | zero => exact absurd HA.out (by simp [tickingref02_Pass.l0])
    | succ k1 =>
      have H := HA.out
      clear HA
      simp only [tickingref02_Pass.l0] at H
      by_cases c2 : x5_1 < (l0.length : Int)
      · rw [if_pos c2] at H
        have c2b0 : decide (x5_1 < (l0.length : Int)) = true := decide_eq_true c2
        clear c2
        have H' := Aside0.mk H
        clear H
        go_wp2
        repeat (go_quiet (fail); try go_wp2)
        go_loopg [3, 4] k1 (fun kq v3 v4 w' => ∃ (x3_2 : List Int) (x4_2 : List Int), Aside0 (tickingref02_Pass.l1 kq l0 x3_2 x4_2 x5_1 = some r) ∧ Aside0 (kq ≤ k1) ∧ Aside0 (Kd.R (Kd.int .i64) 3 w' w.heap.size (fun k_ => some k_ ≠ (v4 : Value).ownBlock) v3 x3_2) ∧ Aside0 (Kd.R (Kd.int .i64) 3 w' w.heap.size (fun k_ => some k_ ≠ (v3 : Value).ownBlock) v4 x4_2) ∧ Aside0 (Below w.heap.size w w'))
        case atStart => exact ⟨(x3_1), (x4_1), H', ⟨Nat.le_refl _⟩, ⟨by (with_reducible repeat (first | apply Kd.R_alloc | apply Kd.R_drewN | apply Kd.R_drew)); exact HO_3.out⟩, ⟨by (with_reducible repeat (first | apply Kd.R_alloc | apply Kd.R_drewN | apply Kd.R_drew)); exact HO_4.out⟩, ⟨by repeat (first | (with_reducible first | exact HB.out | apply below_alloc | apply pw_below_drewN | apply below_drew1) | exact HB.out)⟩⟩
        case round =>
          clear H'
          try clear c2
          try clear c2b0
          try clear p2
          obtain ⟨x3_2, x4_2, HA, HK2, HO_3, HO_4, HB⟩ := hrel
          cases gk with
          | zero => exact absurd HA.out (by simp [tickingref02_Pass.l1])
          | succ k2 =>
            have H := HA.out
            clear HA
            simp only [tickingref02_Pass.l1] at H
            by_cases c3 : (x4_2.length : Int) > 0
            · rw [if_pos c3] at H
              have c3b0 : decide (0 < (x4_2.length : Int)) = true := decide_eq_true c3
              have c3b1 : decide (0 < x4_2.length) = true := decide_eq_true (by omega)
              clear c3
              obtain ⟨ji4, hji4⟩ : ∃ j_ : Int, (wrap64 ((x4_2.length : Int) - 1)) = j_ := ⟨_, rfl⟩
              replace H : (if 0 ≤ (ji4) then (if (ji4) < (x4_2.length : Int) then (if 0 ≤ x5_1 then (if x5_1 < (l0.length : Int) then (if (rd x4_2 (ji4)) < (rd l0 x5_1) then (if x3_2.length < 17592186044416 then (if (ji4) ≤ (x4_2.length : Int) then (tickingref02_Pass.l1 k2 l0 (x3_2 ++ [rd x4_2 (ji4)]) (x4_2.take ((ji4) : Int).toNat) x5_1) else (none)) else (none)) else (if x4_2.length < 17592186044416 then (tickingref02_Pass.l0 k2 l0 x3_2 (x4_2 ++ [rd l0 x5_1]) (wrap64 (x5_1 + 1))) else (none))) else (none)) else (none)) else (none)) else (none)) = some r := by first | (rw [hji4] at H; exact H) | (simp only [hji4] at H ⊢; exact H)
              have hji4w : (IntKind.i64.wrap ((x4_2.length : Int) - 1)) = ji4 := (i64_w _).trans hji4
              by_cases c5 : 0 ≤ (ji4)
              · rw [if_pos c5] at H
                have c5b0 : decide (0 ≤ (ji4)) = true := decide_eq_true c5
                clear c5
                by_cases c6 : (ji4) < (x4_2.length : Int)
                · rw [if_pos c6] at H
                  have c6b0 : decide ((ji4) < (x4_2.length : Int)) = true := decide_eq_true c6
                  clear c6
                  by_cases c7 : 0 ≤ x5_1
                  · rw [if_pos c7] at H
                    have c7b0 : decide (0 ≤ x5_1) = true := decide_eq_true c7
                    clear c7
                    by_cases c8 : x5_1 < (l0.length : Int)
                    · rw [if_pos c8] at H
                      have c8b0 : decide (x5_1 < (l0.length : Int)) = true := decide_eq_true c8
                      clear c8
                      by_cases c9 : (rd x4_2 (ji4)) < (rd l0 x5_1)
                      · rw [if_pos c9] at H
                        have c9b0 : decide ((rd x4_2 (ji4)) < (rd l0 x5_1)) = true := decide_eq_true c9
                        clear c9
                        by_cases c10 : x3_2.length < 17592186044416
                        · rw [if_pos c10] at H
                          have LMc10 := Aside0.mk c10
                          clear c10
                          obtain ⟨y176, hy176⟩ : ∃ y_ : List Int, y_ = (x3_2 ++ [rd x4_2 (ji4)]) := ⟨_, rfl⟩
                          replace H : (if (ji4) ≤ (x4_2.length : Int) then (tickingref02_Pass.l1 k2 l0 y176 (x4_2.take ((ji4) : Int).toNat) x5_1) else (none)) = some r := by first | (rw [hy176]; with_reducible exact H) | (have H2_ := (Option.bind_some _ _).symm.trans H; rw [hy176]; with_reducible exact H2_) | (have H2_ := (Option.bind_some _ _).symm.trans H; with_reducible exact H2_) | with_reducible exact H | (rw [hy176]; exact H) | exact H
                          have Ny176 := Aside0.mk hy176
                          clear hy176
                          by_cases c11 : (ji4) ≤ (x4_2.length : Int)
                          · rw [if_pos c11] at H
                            have c11b0 := eq_true c11
                            have c11b1 : decide ((ji4) ≤ (x4_2.length : Int)) = true := decide_eq_true c11
                            clear c11
                            obtain ⟨y179, hy179⟩ : ∃ y_ : List Int, y_ = (x4_2.take ((ji4) : Int).toNat) := ⟨_, rfl⟩
                            replace H : (tickingref02_Pass.l1 k2 l0 y176 y179 x5_1) = some r := by first | (rw [hy179]; with_reducible exact H) | (have H2_ := (Option.bind_some _ _).symm.trans H; rw [hy179]; with_reducible exact H2_) | (have H2_ := (Option.bind_some _ _).symm.trans H; with_reducible exact H2_) | with_reducible exact H | (rw [hy179]; exact H) | exact H
                            have Ny179 := Aside0.mk hy179
                            clear hy179
                            have H' := Aside0.mk H
                            clear H
                            obtain ⟨Ao12, co12, eo12⟩ := Kd.R_slice HO_4.out
                            subst eo12
                            have p173 : 0 ≤ ((ji4) : Int) := of_decide_eq_true (by first | (with_reducible assumption) | assumption)
                            have q173 : (ji4) < (x4_2.length : Int) := of_decide_eq_true (by first | (with_reducible assumption) | assumption)
                            obtain ⟨ad173, e173, hx173_0⟩ := Kd.at_int (Kd.R_reads' HO_4.out).2.2 (ji4) p173 q173
                            cases e173
                            replace p173 := eq_true p173
                            replace q173 := eq_true q173
                            have p174 : 0 ≤ (x5_1 : Int) := of_decide_eq_true (by first | (with_reducible assumption) | assumption)
                            have q174 : x5_1 < (l0.length : Int) := of_decide_eq_true (by first | (with_reducible assumption) | assumption)
                            obtain ⟨ad174, e174, hx174_0⟩ := Kd.at_int HR0.out x5_1 p174 q174
                            cases e174
                            replace hx174_0 := (HB.out.cell (World.block_lt_of_cell? w _ hx174_0)).trans hx174_0
                            replace p174 := eq_true p174
                            replace q174 := eq_true q174
                            have p175 : 0 ≤ ((ji4) : Int) := of_decide_eq_true (by first | (with_reducible assumption) | assumption)
                            have q175 : (ji4) < (x4_2.length : Int) := of_decide_eq_true (by first | (with_reducible assumption) | assumption)
                            obtain ⟨ad175, e175, hx175_0⟩ := Kd.at_int (Kd.R_reads' HO_4.out).2.2 (ji4) p175 q175
                            obtain rfl : ad173 = ad175 := (by injection e175)
                            replace p175 := eq_true p175
                            replace q175 := eq_true q175
                            go_wp2_with (first | ((with_reducible refine gate_builtin (b := .append) (xs := #[.tmp 29, .tmp 36]) rfl ?_); (try (refine gate_guard (by rfl) ?_; dsimp only)); at_builtin; refine Kd.R_append (Kd.int .i64) (w0 := w) w.heap.size rfl (.tmp 29) (.tmp 36) 22 3 (.int .i64 0) 8 rfl Try.underlying22 info3 rfl (by decide) (by omega) u3 x3_2 (rd x4_2 (ji4)) [.int .i64 (rd x4_2 (ji4))] (fun k_ => some k_ ≠ (.slice (some ad173) x4_2.length co12 : Value).ownBlock) (fun _ => False) rfl rfl ?aP (fun _ hk => hk.elim) ?aF ?aO ?aB ?aS ?aL ?_; (case aP => exact rfl); (case aB => exact (by repeat (first | (with_reducible first | exact HB.out | apply below_alloc | apply pw_below_drewN | apply below_drew1) | exact HB.out))); (case aF => exact (fun k_ hk => Kd.fresh' (Kd.R_lt (by (with_reducible repeat (first | apply Kd.R_alloc | apply Kd.R_drewN | apply Kd.R_drew)); exact HO_4.out)) k_ hk)); (case aO => exact (by (with_reducible repeat (first | apply Kd.R_alloc | apply Kd.R_drewN | apply Kd.R_drew)); exact HO_3.out)); (case aS => exact (below_size (by repeat (first | (with_reducible first | exact HB.out | apply below_alloc | apply pw_below_drewN | apply below_drew1) | exact HB.out)))); (case aL => have := LMc10.out; omega); intro v177 w13 ho hb hg hat; rw [← Ny176.out] at ho; have n0_ := Aside0.mk (Kd.R_after (ok := (fun _ => True)) (by (with_reducible repeat (first | apply Kd.R_alloc | apply Kd.R_drewN | apply Kd.R_drew)); exact Kd.R_mono HO_4.out (fun _ hk => ⟨trivial, hk⟩)) hg hat); have n1_ := Aside0.mk (hb); have n2_ := Aside0.mk (ho); clear HO_4; clear HB; clear HO_3; have HO_4 := n0_; have HB := n1_; have HO178 := n2_; clear n0_ n1_ n2_; clear ho hb hg hat; have q14 : ((ji4) : Int) ≤ ((x4_2.length : Int) : Int) := of_decide_eq_true (by first | (with_reducible assumption) | assumption); obtain ⟨i014, hi014, _, hsz14, _⟩ := info_parts info3; have hcut14 := cut_to (P := Try.prog) 22 3 .i64 Try.underlying22 hi014 (some ad173) x4_2.length co12 (ji4) (of_decide_eq_true (by first | (with_reducible assumption) | assumption)) q14 (Kd.R_reads' HO_4.out).2.1; have hr14 := Kd.R_take (m := ((ji4) : Int).toNat) HO_4.out (by omega); have hy14 : y179.length = ((ji4) : Int).toNat := (by rw [Ny179.out, List.length_take]; omega); rw [← Ny179.out] at hr14; rw [← hy14] at hr14 hcut14; clear hy14 hi014 hsz14 HO_4; have HO181 := Aside0.mk hr14; clear hr14; replace q14 := eq_true q14))
                            repeat (go_quiet (first | ((with_reducible refine gate_builtin (b := .append) (xs := #[.tmp 29, .tmp 36]) rfl ?_); (try (refine gate_guard (by rfl) ?_; dsimp only)); at_builtin; refine Kd.R_append (Kd.int .i64) (w0 := w) w.heap.size rfl (.tmp 29) (.tmp 36) 22 3 (.int .i64 0) 8 rfl Try.underlying22 info3 rfl (by decide) (by omega) u3 x3_2 (rd x4_2 (ji4)) [.int .i64 (rd x4_2 (ji4))] (fun k_ => some k_ ≠ (.slice (some ad173) x4_2.length co12 : Value).ownBlock) (fun _ => False) rfl rfl ?aP (fun _ hk => hk.elim) ?aF ?aO ?aB ?aS ?aL ?_; (case aP => exact rfl); (case aB => exact (by repeat (first | (with_reducible first | exact HB.out | apply below_alloc | apply pw_below_drewN | apply below_drew1) | exact HB.out))); (case aF => exact (fun k_ hk => Kd.fresh' (Kd.R_lt (by (with_reducible repeat (first | apply Kd.R_alloc | apply Kd.R_drewN | apply Kd.R_drew)); exact HO_4.out)) k_ hk)); (case aO => exact (by (with_reducible repeat (first | apply Kd.R_alloc | apply Kd.R_drewN | apply Kd.R_drew)); exact HO_3.out)); (case aS => exact (below_size (by repeat (first | (with_reducible first | exact HB.out | apply below_alloc | apply pw_below_drewN | apply below_drew1) | exact HB.out)))); (case aL => have := LMc10.out; omega); intro v177 w13 ho hb hg hat; rw [← Ny176.out] at ho; have n0_ := Aside0.mk (Kd.R_after (ok := (fun _ => True)) (by (with_reducible repeat (first | apply Kd.R_alloc | apply Kd.R_drewN | apply Kd.R_drew)); exact Kd.R_mono HO_4.out (fun _ hk => ⟨trivial, hk⟩)) hg hat); have n1_ := Aside0.mk (hb); have n2_ := Aside0.mk (ho); clear HO_4; clear HB; clear HO_3; have HO_4 := n0_; have HB := n1_; have HO178 := n2_; clear n0_ n1_ n2_; clear ho hb hg hat; have q14 : ((ji4) : Int) ≤ ((x4_2.length : Int) : Int) := of_decide_eq_true (by first | (with_reducible assumption) | assumption); obtain ⟨i014, hi014, _, hsz14, _⟩ := info_parts info3; have hcut14 := cut_to (P := Try.prog) 22 3 .i64 Try.underlying22 hi014 (some ad173) x4_2.length co12 (ji4) (of_decide_eq_true (by first | (with_reducible assumption) | assumption)) q14 (Kd.R_reads' HO_4.out).2.1; have hr14 := Kd.R_take (m := ((ji4) : Int).toNat) HO_4.out (by omega); have hy14 : y179.length = ((ji4) : Int).toNat := (by rw [Ny179.out, List.length_take]; omega); rw [← Ny179.out] at hr14; rw [← hy14] at hr14 hcut14; clear hy14 hi014 hsz14 HO_4; have HO181 := Aside0.mk hr14; clear hr14; replace q14 := eq_true q14)); try go_wp2_with (first | ((with_reducible refine gate_builtin (b := .append) (xs := #[.tmp 29, .tmp 36]) rfl ?_); (try (refine gate_guard (by rfl) ?_; dsimp only)); at_builtin; refine Kd.R_append (Kd.int .i64) (w0 := w) w.heap.size rfl (.tmp 29) (.tmp 36) 22 3 (.int .i64 0) 8 rfl Try.underlying22 info3 rfl (by decide) (by omega) u3 x3_2 (rd x4_2 (ji4)) [.int .i64 (rd x4_2 (ji4))] (fun k_ => some k_ ≠ (.slice (some ad173) x4_2.length co12 : Value).ownBlock) (fun _ => False) rfl rfl ?aP (fun _ hk => hk.elim) ?aF ?aO ?aB ?aS ?aL ?_; (case aP => exact rfl); (case aB => exact (by repeat (first | (with_reducible first | exact HB.out | apply below_alloc | apply pw_below_drewN | apply below_drew1) | exact HB.out))); (case aF => exact (fun k_ hk => Kd.fresh' (Kd.R_lt (by (with_reducible repeat (first | apply Kd.R_alloc | apply Kd.R_drewN | apply Kd.R_drew)); exact HO_4.out)) k_ hk)); (case aO => exact (by (with_reducible repeat (first | apply Kd.R_alloc | apply Kd.R_drewN | apply Kd.R_drew)); exact HO_3.out)); (case aS => exact (below_size (by repeat (first | (with_reducible first | exact HB.out | apply below_alloc | apply pw_below_drewN | apply below_drew1) | exact HB.out)))); (case aL => have := LMc10.out; omega); intro v177 w13 ho hb hg hat; rw [← Ny176.out] at ho; have n0_ := Aside0.mk (Kd.R_after (ok := (fun _ => True)) (by (with_reducible repeat (first | apply Kd.R_alloc | apply Kd.R_drewN | apply Kd.R_drew)); exact Kd.R_mono HO_4.out (fun _ hk => ⟨trivial, hk⟩)) hg hat); have n1_ := Aside0.mk (hb); have n2_ := Aside0.mk (ho); clear HO_4; clear HB; clear HO_3; have HO_4 := n0_; have HB := n1_; have HO178 := n2_; clear n0_ n1_ n2_; clear ho hb hg hat; have q14 : ((ji4) : Int) ≤ ((x4_2.length : Int) : Int) := of_decide_eq_true (by first | (with_reducible assumption) | assumption); obtain ⟨i014, hi014, _, hsz14, _⟩ := info_parts info3; have hcut14 := cut_to (P := Try.prog) 22 3 .i64 Try.underlying22 hi014 (some ad173) x4_2.length co12 (ji4) (of_decide_eq_true (by first | (with_reducible assumption) | assumption)) q14 (Kd.R_reads' HO_4.out).2.1; have hr14 := Kd.R_take (m := ((ji4) : Int).toNat) HO_4.out (by omega); have hy14 : y179.length = ((ji4) : Int).toNat := (by rw [Ny179.out, List.length_take]; omega); rw [← Ny179.out] at hr14; rw [← hy14] at hr14 hcut14; clear hy14 hi014 hsz14 HO_4; have HO181 := Aside0.mk hr14; clear hr14; replace q14 := eq_true q14)))
                            go_roundg k2
                            case measure => have := HK1.out; have := HK2.out; omega
                            case rel => exact ⟨(y176), (y179), H', ⟨by have := HK1.out; have := HK2.out; omega⟩, ⟨by (with_reducible repeat (first | apply Kd.R_alloc | apply Kd.R_drewN | apply Kd.R_drew)); exact HO178.out⟩, ⟨by (with_reducible repeat (first | apply Kd.R_alloc | apply Kd.R_drewN | apply Kd.R_drew)); exact Kd.R_mono HO181.out (fun _ hk => hk.2)⟩, ⟨by repeat (first | (with_reducible first | exact HB.out | apply below_alloc | apply pw_below_drewN | apply below_drew1) | exact HB.out)⟩⟩
                          · rw [if_neg c11] at H
                            exact absurd H (by simp)
                        · rw [if_neg c10] at H
                          exact absurd H (by simp)
                      · rw [if_neg c9] at H
                        have c9b0 : decide ((rd x4_2 (ji4)) < (rd l0 x5_1)) = false := decide_eq_false c9
                        clear c9
                        by_cases c15 : x4_2.length < 17592186044416
                        · rw [if_pos c15] at H
                          have LMc15 := Aside0.mk c15
                          clear c15
                          obtain ⟨y183, hy183⟩ : ∃ y_ : List Int, y_ = (x4_2 ++ [rd l0 x5_1]) := ⟨_, rfl⟩
                          replace H : (tickingref02_Pass.l0 k2 l0 x3_2 y183 (wrap64 (x5_1 + 1))) = some r := by first | (rw [hy183]; with_reducible exact H) | (have H2_ := (Option.bind_some _ _).symm.trans H; rw [hy183]; with_reducible exact H2_) | (have H2_ := (Option.bind_some _ _).symm.trans H; with_reducible exact H2_) | with_reducible exact H | (rw [hy183]; exact H) | exact H
                          have Ny183 := Aside0.mk hy183
                          clear hy183
                          have H' := Aside0.mk H
                          clear H
                          obtain ⟨Ao16, co16, eo16⟩ := Kd.R_slice HO_4.out
                          subst eo16
                          have p173 : 0 ≤ ((ji4) : Int) := of_decide_eq_true (by first | (with_reducible assumption) | assumption)
                          have q173 : (ji4) < (x4_2.length : Int) := of_decide_eq_true (by first | (with_reducible assumption) | assumption)
                          obtain ⟨ad173, e173, hx173_0⟩ := Kd.at_int (Kd.R_reads' HO_4.out).2.2 (ji4) p173 q173
                          cases e173
                          replace p173 := eq_true p173
                          replace q173 := eq_true q173
                          have p174 : 0 ≤ (x5_1 : Int) := of_decide_eq_true (by first | (with_reducible assumption) | assumption)
                          have q174 : x5_1 < (l0.length : Int) := of_decide_eq_true (by first | (with_reducible assumption) | assumption)
                          obtain ⟨ad174, e174, hx174_0⟩ := Kd.at_int HR0.out x5_1 p174 q174
                          cases e174
                          replace hx174_0 := (HB.out.cell (World.block_lt_of_cell? w _ hx174_0)).trans hx174_0
                          replace p174 := eq_true p174
                          replace q174 := eq_true q174
                          have p182 : 0 ≤ (x5_1 : Int) := of_decide_eq_true (by first | (with_reducible assumption) | assumption)
                          have q182 : x5_1 < (l0.length : Int) := of_decide_eq_true (by first | (with_reducible assumption) | assumption)
                          obtain ⟨ad182, e182, hx182_0⟩ := Kd.at_int HR0.out x5_1 p182 q182
                          obtain rfl : ad174 = ad182 := (by injection e182)
                          replace hx182_0 := (HB.out.cell (World.block_lt_of_cell? w _ hx182_0)).trans hx182_0
                          replace p182 := eq_true p182
                          replace q182 := eq_true q182
                          go_wp2_with (first | ((with_reducible refine gate_builtin (b := .append) (xs := #[.tmp 43, .tmp 48]) rfl ?_); (try (refine gate_guard (by rfl) ?_; dsimp only)); at_builtin; refine Kd.R_append (Kd.int .i64) (w0 := w) w.heap.size rfl (.tmp 43) (.tmp 48) 22 3 (.int .i64 0) 8 rfl Try.underlying22 info3 rfl (by decide) (by omega) (.slice (some ad173) x4_2.length co16) x4_2 (rd l0 x5_1) [.int .i64 (rd l0 x5_1)] (fun k_ => some k_ ≠ (u3 : Value).ownBlock) (fun _ => False) rfl rfl ?aP (fun _ hk => hk.elim) ?aF ?aO ?aB ?aS ?aL ?_; (case aP => exact rfl); (case aB => exact (by repeat (first | (with_reducible first | exact HB.out | apply below_alloc | apply pw_below_drewN | apply below_drew1) | exact HB.out))); (case aF => exact (fun k_ hk => Kd.fresh' (Kd.R_lt (by (with_reducible repeat (first | apply Kd.R_alloc | apply Kd.R_drewN | apply Kd.R_drew)); exact HO_3.out)) k_ hk)); (case aO => exact (by (with_reducible repeat (first | apply Kd.R_alloc | apply Kd.R_drewN | apply Kd.R_drew)); exact HO_4.out)); (case aS => exact (below_size (by repeat (first | (with_reducible first | exact HB.out | apply below_alloc | apply pw_below_drewN | apply below_drew1) | exact HB.out)))); (case aL => have := LMc15.out; omega); intro v184 w17 ho hb hg hat; rw [← Ny183.out] at ho; have n0_ := Aside0.mk (Kd.R_after (ok := (fun _ => True)) (by (with_reducible repeat (first | apply Kd.R_alloc | apply Kd.R_drewN | apply Kd.R_drew)); exact Kd.R_mono HO_3.out (fun _ hk => ⟨trivial, hk⟩)) hg hat); have n1_ := Aside0.mk (hb); have n2_ := Aside0.mk (ho); clear HO_3; clear HB; clear HO_4; have HO_3 := n0_; have HB := n1_; have HO185 := n2_; clear n0_ n1_ n2_; clear ho hb hg hat))
                          repeat (go_quiet (first | ((with_reducible refine gate_builtin (b := .append) (xs := #[.tmp 43, .tmp 48]) rfl ?_); (try (refine gate_guard (by rfl) ?_; dsimp only)); at_builtin; refine Kd.R_append (Kd.int .i64) (w0 := w) w.heap.size rfl (.tmp 43) (.tmp 48) 22 3 (.int .i64 0) 8 rfl Try.underlying22 info3 rfl (by decide) (by omega) (.slice (some ad173) x4_2.length co16) x4_2 (rd l0 x5_1) [.int .i64 (rd l0 x5_1)] (fun k_ => some k_ ≠ (u3 : Value).ownBlock) (fun _ => False) rfl rfl ?aP (fun _ hk => hk.elim) ?aF ?aO ?aB ?aS ?aL ?_; (case aP => exact rfl); (case aB => exact (by repeat (first | (with_reducible first | exact HB.out | apply below_alloc | apply pw_below_drewN | apply below_drew1) | exact HB.out))); (case aF => exact (fun k_ hk => Kd.fresh' (Kd.R_lt (by (with_reducible repeat (first | apply Kd.R_alloc | apply Kd.R_drewN | apply Kd.R_drew)); exact HO_3.out)) k_ hk)); (case aO => exact (by (with_reducible repeat (first | apply Kd.R_alloc | apply Kd.R_drewN | apply Kd.R_drew)); exact HO_4.out)); (case aS => exact (below_size (by repeat (first | (with_reducible first | exact HB.out | apply below_alloc | apply pw_below_drewN | apply below_drew1) | exact HB.out)))); (case aL => have := LMc15.out; omega); intro v184 w17 ho hb hg hat; rw [← Ny183.out] at ho; have n0_ := Aside0.mk (Kd.R_after (ok := (fun _ => True)) (by (with_reducible repeat (first | apply Kd.R_alloc | apply Kd.R_drewN | apply Kd.R_drew)); exact Kd.R_mono HO_3.out (fun _ hk => ⟨trivial, hk⟩)) hg hat); have n1_ := Aside0.mk (hb); have n2_ := Aside0.mk (ho); clear HO_3; clear HB; clear HO_4; have HO_3 := n0_; have HB := n1_; have HO185 := n2_; clear n0_ n1_ n2_; clear ho hb hg hat)); try go_wp2_with (first | ((with_reducible refine gate_builtin (b := .append) (xs := #[.tmp 43, .tmp 48]) rfl ?_); (try (refine gate_guard (by rfl) ?_; dsimp only)); at_builtin; refine Kd.R_append (Kd.int .i64) (w0 := w) w.heap.size rfl (.tmp 43) (.tmp 48) 22 3 (.int .i64 0) 8 rfl Try.underlying22 info3 rfl (by decide) (by omega) (.slice (some ad173) x4_2.length co16) x4_2 (rd l0 x5_1) [.int .i64 (rd l0 x5_1)] (fun k_ => some k_ ≠ (u3 : Value).ownBlock) (fun _ => False) rfl rfl ?aP (fun _ hk => hk.elim) ?aF ?aO ?aB ?aS ?aL ?_; (case aP => exact rfl); (case aB => exact (by repeat (first | (with_reducible first | exact HB.out | apply below_alloc | apply pw_below_drewN | apply below_drew1) | exact HB.out))); (case aF => exact (fun k_ hk => Kd.fresh' (Kd.R_lt (by (with_reducible repeat (first | apply Kd.R_alloc | apply Kd.R_drewN | apply Kd.R_drew)); exact HO_3.out)) k_ hk)); (case aO => exact (by (with_reducible repeat (first | apply Kd.R_alloc | apply Kd.R_drewN | apply Kd.R_drew)); exact HO_4.out)); (case aS => exact (below_size (by repeat (first | (with_reducible first | exact HB.out | apply below_alloc | apply pw_below_drewN | apply below_drew1) | exact HB.out)))); (case aL => have := LMc15.out; omega); intro v184 w17 ho hb hg hat; rw [← Ny183.out] at ho; have n0_ := Aside0.mk (Kd.R_after (ok := (fun _ => True)) (by (with_reducible repeat (first | apply Kd.R_alloc | apply Kd.R_drewN | apply Kd.R_drew)); exact Kd.R_mono HO_3.out (fun _ hk => ⟨trivial, hk⟩)) hg hat); have n1_ := Aside0.mk (hb); have n2_ := Aside0.mk (ho); clear HO_3; clear HB; clear HO_4; have HO_3 := n0_; have HB := n1_; have HO185 := n2_; clear n0_ n1_ n2_; clear ho hb hg hat)))
                          go_roundg k2
                          case measure => have := HK1.out; have := HK2.out; omega
                          case rel => exact ⟨(x3_2), (y183), (wrap64 (x5_1 + 1)), (by first | rfl | (simp; done) | (simp [*]; done)), H', ⟨by have := HK1.out; have := HK2.out; omega⟩, ⟨by (with_reducible repeat (first | apply Kd.R_alloc | apply Kd.R_drewN | apply Kd.R_drew)); exact Kd.R_mono HO_3.out (fun _ hk => hk.2)⟩, ⟨by (with_reducible repeat (first | apply Kd.R_alloc | apply Kd.R_drewN | apply Kd.R_drew)); exact HO185.out⟩, ⟨by repeat (first | (with_reducible first | exact HB.out | apply below_alloc | apply pw_below_drewN | apply below_drew1) | exact HB.out)⟩⟩
                        · rw [if_neg c15] at H
                          exact absurd H (by simp)
                    · rw [if_neg c8] at H
                      exact absurd H (by simp)
                  · rw [if_neg c7] at H
                    exact absurd H (by simp)
                · rw [if_neg c6] at H
                  exact absurd H (by simp)
              · rw [if_neg c5] at H
                exact absurd H (by simp)
            · rw [if_neg c3] at H
              have c3b0 : decide (0 < (x4_2.length : Int)) = false := decide_eq_false c3
              have c3b1 : decide (0 < x4_2.length) = false := decide_eq_false (by omega)
              clear c3
              by_cases c18 : 0 ≤ x5_1
              · rw [if_pos c18] at H
                have c18b0 : decide (0 ≤ x5_1) = true := decide_eq_true c18
                clear c18
                by_cases c19 : x5_1 < (l0.length : Int)
                · rw [if_pos c19] at H
                  have c19b0 : decide (x5_1 < (l0.length : Int)) = true := decide_eq_true c19
                  clear c19
                  by_cases c20 : x4_2.length < 17592186044416
                  · rw [if_pos c20] at H
                    have LMc20 := Aside0.mk c20
                    clear c20
                    obtain ⟨y187, hy187⟩ : ∃ y_ : List Int, y_ = (x4_2 ++ [rd l0 x5_1]) := ⟨_, rfl⟩
                    replace H : (tickingref02_Pass.l0 k2 l0 x3_2 y187 (wrap64 (x5_1 + 1))) = some r := by first | (rw [hy187]; with_reducible exact H) | (have H2_ := (Option.bind_some _ _).symm.trans H; rw [hy187]; with_reducible exact H2_) | (have H2_ := (Option.bind_some _ _).symm.trans H; with_reducible exact H2_) | with_reducible exact H | (rw [hy187]; exact H) | exact H
                    have Ny187 := Aside0.mk hy187
                    clear hy187
                    have H' := Aside0.mk H
                    clear H
                    obtain ⟨Ao21, co21, eo21⟩ := Kd.R_slice HO_4.out
                    subst eo21
                    have p186 : 0 ≤ (x5_1 : Int) := of_decide_eq_true (by first | (with_reducible assumption) | assumption)
                    have q186 : x5_1 < (l0.length : Int) := of_decide_eq_true (by first | (with_reducible assumption) | assumption)
                    obtain ⟨ad186, e186, hx186_0⟩ := Kd.at_int HR0.out x5_1 p186 q186
                    cases e186
                    replace hx186_0 := (HB.out.cell (World.block_lt_of_cell? w _ hx186_0)).trans hx186_0
                    replace p186 := eq_true p186
                    replace q186 := eq_true q186
                    go_wp2_with (first | ((with_reducible refine gate_builtin (b := .append) (xs := #[.tmp 43, .tmp 48]) rfl ?_); (try (refine gate_guard (by rfl) ?_; dsimp only)); at_builtin; refine Kd.R_append (Kd.int .i64) (w0 := w) w.heap.size rfl (.tmp 43) (.tmp 48) 22 3 (.int .i64 0) 8 rfl Try.underlying22 info3 rfl (by decide) (by omega) (.slice Ao21 x4_2.length co21) x4_2 (rd l0 x5_1) [.int .i64 (rd l0 x5_1)] (fun k_ => some k_ ≠ (u3 : Value).ownBlock) (fun _ => False) rfl rfl ?aP (fun _ hk => hk.elim) ?aF ?aO ?aB ?aS ?aL ?_; (case aP => exact rfl); (case aB => exact (by repeat (first | (with_reducible first | exact HB.out | apply below_alloc | apply pw_below_drewN | apply below_drew1) | exact HB.out))); (case aF => exact (fun k_ hk => Kd.fresh' (Kd.R_lt (by (with_reducible repeat (first | apply Kd.R_alloc | apply Kd.R_drewN | apply Kd.R_drew)); exact HO_3.out)) k_ hk)); (case aO => exact (by (with_reducible repeat (first | apply Kd.R_alloc | apply Kd.R_drewN | apply Kd.R_drew)); exact HO_4.out)); (case aS => exact (below_size (by repeat (first | (with_reducible first | exact HB.out | apply below_alloc | apply pw_below_drewN | apply below_drew1) | exact HB.out)))); (case aL => have := LMc20.out; omega); intro v188 w22 ho hb hg hat; rw [← Ny187.out] at ho; have n0_ := Aside0.mk (Kd.R_after (ok := (fun _ => True)) (by (with_reducible repeat (first | apply Kd.R_alloc | apply Kd.R_drewN | apply Kd.R_drew)); exact Kd.R_mono HO_3.out (fun _ hk => ⟨trivial, hk⟩)) hg hat); have n1_ := Aside0.mk (hb); have n2_ := Aside0.mk (ho); clear HO_3; clear HB; clear HO_4; have HO_3 := n0_; have HB := n1_; have HO189 := n2_; clear n0_ n1_ n2_; clear ho hb hg hat))
                    repeat (go_quiet (first | ((with_reducible refine gate_builtin (b := .append) (xs := #[.tmp 43, .tmp 48]) rfl ?_); (try (refine gate_guard (by rfl) ?_; dsimp only)); at_builtin; refine Kd.R_append (Kd.int .i64) (w0 := w) w.heap.size rfl (.tmp 43) (.tmp 48) 22 3 (.int .i64 0) 8 rfl Try.underlying22 info3 rfl (by decide) (by omega) (.slice Ao21 x4_2.length co21) x4_2 (rd l0 x5_1) [.int .i64 (rd l0 x5_1)] (fun k_ => some k_ ≠ (u3 : Value).ownBlock) (fun _ => False) rfl rfl ?aP (fun _ hk => hk.elim) ?aF ?aO ?aB ?aS ?aL ?_; (case aP => exact rfl); (case aB => exact (by repeat (first | (with_reducible first | exact HB.out | apply below_alloc | apply pw_below_drewN | apply below_drew1) | exact HB.out))); (case aF => exact (fun k_ hk => Kd.fresh' (Kd.R_lt (by (with_reducible repeat (first | apply Kd.R_alloc | apply Kd.R_drewN | apply Kd.R_drew)); exact HO_3.out)) k_ hk)); (case aO => exact (by (with_reducible repeat (first | apply Kd.R_alloc | apply Kd.R_drewN | apply Kd.R_drew)); exact HO_4.out)); (case aS => exact (below_size (by repeat (first | (with_reducible first | exact HB.out | apply below_alloc | apply pw_below_drewN | apply below_drew1) | exact HB.out)))); (case aL => have := LMc20.out; omega); intro v188 w22 ho hb hg hat; rw [← Ny187.out] at ho; have n0_ := Aside0.mk (Kd.R_after (ok := (fun _ => True)) (by (with_reducible repeat (first | apply Kd.R_alloc | apply Kd.R_drewN | apply Kd.R_drew)); exact Kd.R_mono HO_3.out (fun _ hk => ⟨trivial, hk⟩)) hg hat); have n1_ := Aside0.mk (hb); have n2_ := Aside0.mk (ho); clear HO_3; clear HB; clear HO_4; have HO_3 := n0_; have HB := n1_; have HO189 := n2_; clear n0_ n1_ n2_; clear ho hb hg hat)); try go_wp2_with (first | ((with_reducible refine gate_builtin (b := .append) (xs := #[.tmp 43, .tmp 48]) rfl ?_); (try (refine gate_guard (by rfl) ?_; dsimp only)); at_builtin; refine Kd.R_append (Kd.int .i64) (w0 := w) w.heap.size rfl (.tmp 43) (.tmp 48) 22 3 (.int .i64 0) 8 rfl Try.underlying22 info3 rfl (by decide) (by omega) (.slice Ao21 x4_2.length co21) x4_2 (rd l0 x5_1) [.int .i64 (rd l0 x5_1)] (fun k_ => some k_ ≠ (u3 : Value).ownBlock) (fun _ => False) rfl rfl ?aP (fun _ hk => hk.elim) ?aF ?aO ?aB ?aS ?aL ?_; (case aP => exact rfl); (case aB => exact (by repeat (first | (with_reducible first | exact HB.out | apply below_alloc | apply pw_below_drewN | apply below_drew1) | exact HB.out))); (case aF => exact (fun k_ hk => Kd.fresh' (Kd.R_lt (by (with_reducible repeat (first | apply Kd.R_alloc | apply Kd.R_drewN | apply Kd.R_drew)); exact HO_3.out)) k_ hk)); (case aO => exact (by (with_reducible repeat (first | apply Kd.R_alloc | apply Kd.R_drewN | apply Kd.R_drew)); exact HO_4.out)); (case aS => exact (below_size (by repeat (first | (with_reducible first | exact HB.out | apply below_alloc | apply pw_below_drewN | apply below_drew1) | exact HB.out)))); (case aL => have := LMc20.out; omega); intro v188 w22 ho hb hg hat; rw [← Ny187.out] at ho; have n0_ := Aside0.mk (Kd.R_after (ok := (fun _ => True)) (by (with_reducible repeat (first | apply Kd.R_alloc | apply Kd.R_drewN | apply Kd.R_drew)); exact Kd.R_mono HO_3.out (fun _ hk => ⟨trivial, hk⟩)) hg hat); have n1_ := Aside0.mk (hb); have n2_ := Aside0.mk (ho); clear HO_3; clear HB; clear HO_4; have HO_3 := n0_; have HB := n1_; have HO189 := n2_; clear n0_ n1_ n2_; clear ho hb hg hat)))
                    go_roundg k2
                    case measure => have := HK1.out; have := HK2.out; omega
                    case rel => exact ⟨(x3_2), (y187), (wrap64 (x5_1 + 1)), (by first | rfl | (simp; done) | (simp [*]; done)), H', ⟨by have := HK1.out; have := HK2.out; omega⟩, ⟨by (with_reducible repeat (first | apply Kd.R_alloc | apply Kd.R_drewN | apply Kd.R_drew)); exact Kd.R_mono HO_3.out (fun _ hk => hk.2)⟩, ⟨by (with_reducible repeat (first | apply Kd.R_alloc | apply Kd.R_drewN | apply Kd.R_drew)); exact HO189.out⟩, ⟨by repeat (first | (with_reducible first | exact HB.out | apply below_alloc | apply pw_below_drewN | apply below_drew1) | exact HB.out)⟩⟩
                  · rw [if_neg c20] at H
                    exact absurd H (by simp)
                · rw [if_neg c19] at H
                  exact absurd H (by simp)
              · rw [if_neg c18] at H
                exact absurd H (by simp)
      · rw [if_neg c2] at H
        have c2b0 : decide (x5_1 < (l0.length : Int)) = false := decide_eq_false c2
        clear c2
        have H' := Aside0.mk H
        clear H
        obtain ⟨Ao23, co23, eo23⟩ := Kd.R_slice HO_4.out
        subst eo23
        go_wp2
        repeat (go_quiet (fail); try go_wp2)
        go_loopg [3, 6] k1 (fun kq v3 v6 w' => ∃ (x3_2 : List Int) (x6_2 : Int), v6 = .int .i64 x6_2 ∧ Aside0 (tickingref02_Pass.l2 kq x3_2 x4_1 x6_2 = some r) ∧ Aside0 (kq ≤ k1) ∧ Aside0 (Kd.R (Kd.int .i64) 3 w' w.heap.size (fun k_ => some k_ ≠ ((.slice Ao23 x4_1.length co23) : Value).ownBlock) v3 x3_2) ∧ Aside0 (Kd.R (Kd.int .i64) 3 w' w.heap.size (fun k_ => some k_ ≠ (v3 : Value).ownBlock) (.slice Ao23 x4_1.length co23) x4_1) ∧ Aside0 (Below w.heap.size w w'))
        case atStart => exact ⟨(x3_1), (wrap64 ((x4_1.length : Int) - 1)), (by first | rfl | (simp; done) | (simp [*]; done)), H', ⟨Nat.le_refl _⟩, ⟨by (with_reducible repeat (first | apply Kd.R_alloc | apply Kd.R_drewN | apply Kd.R_drew)); exact HO_3.out⟩, ⟨by (with_reducible repeat (first | apply Kd.R_alloc | apply Kd.R_drewN | apply Kd.R_drew)); exact HO_4.out⟩, ⟨by repeat (first | (with_reducible first | exact HB.out | apply below_alloc | apply pw_below_drewN | apply below_drew1) | exact HB.out)⟩⟩
        case round =>
          clear H'
          try clear c1
          try clear p1
          try clear q1
          try clear hx1
          try clear c2
          try clear c2b0
          try clear p2
          try clear c3
          try clear c3b0
          try clear c3b1
          try clear c5
          try clear c5b0
          try clear c6
          try clear c6b0
          try clear p6
          try clear c7
          try clear c7b0
          try clear c8
          try clear c8b0
          try clear c9
          try clear c9b0
          try clear c10
          try clear c11
          try clear c11b0
          try clear c11b1
          try clear q14
          try clear c15
          try clear p17
          try clear q17
          try clear hx17
          try clear c18
          try clear c18b0
          try clear p18
          try clear q18
          try clear hx18
          try clear c19
          try clear c19b0
          try clear c20
          try clear hx173_0
          try clear hx174_0
          try clear hx175_0
          try clear hx182_0
          try clear hx186_0
          try clear p173
          try clear p174
          try clear p175
          try clear p182
          try clear p186
          try clear p2
          try clear q14
          try clear q173
          try clear q174
          try clear q175
          try clear q182
          try clear q186
          obtain ⟨x3_2, x6_2, rfl, HA, HK2, HO_3, HO_4, HB⟩ := hrel
          cases gk with
          | zero => exact absurd HA.out (by simp [tickingref02_Pass.l2])
          | succ k2 =>
            have H := HA.out
            clear HA
            simp only [tickingref02_Pass.l2] at H
            by_cases c24 : x6_2 ≥ 0
            · rw [if_pos c24] at H
              have c24b0 : decide (0 ≤ x6_2) = true := decide_eq_true c24
              clear c24
              by_cases c25 : 0 ≤ x6_2
              · rw [if_pos c25] at H
                have c25b0 : decide (0 ≤ x6_2) = true := decide_eq_true c25
                clear c25
                by_cases c26 : x6_2 < (x4_1.length : Int)
                · rw [if_pos c26] at H
                  have c26b0 : decide (x6_2 < (x4_1.length : Int)) = true := decide_eq_true c26
                  clear c26
                  by_cases c27 : x3_2.length < 17592186044416
                  · rw [if_pos c27] at H
                    have LMc27 := Aside0.mk c27
                    clear c27
                    obtain ⟨y191, hy191⟩ : ∃ y_ : List Int, y_ = (x3_2 ++ [rd x4_1 x6_2]) := ⟨_, rfl⟩
                    replace H : (tickingref02_Pass.l2 k2 y191 x4_1 (wrap64 (x6_2 - 1))) = some r := by first | (rw [hy191]; with_reducible exact H) | (have H2_ := (Option.bind_some _ _).symm.trans H; rw [hy191]; with_reducible exact H2_) | (have H2_ := (Option.bind_some _ _).symm.trans H; with_reducible exact H2_) | with_reducible exact H | (rw [hy191]; exact H) | exact H
                    have Ny191 := Aside0.mk hy191
                    clear hy191
                    have H' := Aside0.mk H
                    clear H
                    have p190 : 0 ≤ (x6_2 : Int) := of_decide_eq_true (by first | (with_reducible assumption) | assumption)
                    have q190 : x6_2 < (x4_1.length : Int) := of_decide_eq_true (by first | (with_reducible assumption) | assumption)
                    obtain ⟨ad190, e190, hx190_0⟩ := Kd.at_int (Kd.R_reads' HO_4.out).2.2 x6_2 p190 q190
                    cases e190
                    replace p190 := eq_true p190
                    replace q190 := eq_true q190
                    go_wp2_with (first | ((with_reducible refine gate_builtin (b := .append) (xs := #[.tmp 57, .tmp 62]) rfl ?_); (try (refine gate_guard (by rfl) ?_; dsimp only)); at_builtin; refine Kd.R_append (Kd.int .i64) (w0 := w) w.heap.size rfl (.tmp 57) (.tmp 62) 22 3 (.int .i64 0) 8 rfl Try.underlying22 info3 rfl (by decide) (by omega) u3 x3_2 (rd x4_1 x6_2) [.int .i64 (rd x4_1 x6_2)] (fun k_ => some k_ ≠ (.slice (some ad190) x4_1.length co23 : Value).ownBlock) (fun _ => False) rfl rfl ?aP (fun _ hk => hk.elim) ?aF ?aO ?aB ?aS ?aL ?_; (case aP => exact rfl); (case aB => exact (by repeat (first | (with_reducible first | exact HB.out | apply below_alloc | apply pw_below_drewN | apply below_drew1) | exact HB.out))); (case aF => exact (fun k_ hk => Kd.fresh' (Kd.R_lt (by (with_reducible repeat (first | apply Kd.R_alloc | apply Kd.R_drewN | apply Kd.R_drew)); exact HO_4.out)) k_ hk)); (case aO => exact (by (with_reducible repeat (first | apply Kd.R_alloc | apply Kd.R_drewN | apply Kd.R_drew)); exact HO_3.out)); (case aS => exact (below_size (by repeat (first | (with_reducible first | exact HB.out | apply below_alloc | apply pw_below_drewN | apply below_drew1) | exact HB.out)))); (case aL => have := LMc27.out; omega); intro v192 w28 ho hb hg hat; rw [← Ny191.out] at ho; have n0_ := Aside0.mk (Kd.R_after (ok := (fun _ => True)) (by (with_reducible repeat (first | apply Kd.R_alloc | apply Kd.R_drewN | apply Kd.R_drew)); exact Kd.R_mono HO_4.out (fun _ hk => ⟨trivial, hk⟩)) hg hat); have n1_ := Aside0.mk (hb); have n2_ := Aside0.mk (ho); clear HO_4; clear HB; clear HO_3; have HO_4 := n0_; have HB := n1_; have HO193 := n2_; clear n0_ n1_ n2_; clear ho hb hg hat))
                    repeat (go_quiet (first | ((with_reducible refine gate_builtin (b := .append) (xs := #[.tmp 57, .tmp 62]) rfl ?_); (try (refine gate_guard (by rfl) ?_; dsimp only)); at_builtin; refine Kd.R_append (Kd.int .i64) (w0 := w) w.heap.size rfl (.tmp 57) (.tmp 62) 22 3 (.int .i64 0) 8 rfl Try.underlying22 info3 rfl (by decide) (by omega) u3 x3_2 (rd x4_1 x6_2) [.int .i64 (rd x4_1 x6_2)] (fun k_ => some k_ ≠ (.slice (some ad190) x4_1.length co23 : Value).ownBlock) (fun _ => False) rfl rfl ?aP (fun _ hk => hk.elim) ?aF ?aO ?aB ?aS ?aL ?_; (case aP => exact rfl); (case aB => exact (by repeat (first | (with_reducible first | exact HB.out | apply below_alloc | apply pw_below_drewN | apply below_drew1) | exact HB.out))); (case aF => exact (fun k_ hk => Kd.fresh' (Kd.R_lt (by (with_reducible repeat (first | apply Kd.R_alloc | apply Kd.R_drewN | apply Kd.R_drew)); exact HO_4.out)) k_ hk)); (case aO => exact (by (with_reducible repeat (first | apply Kd.R_alloc | apply Kd.R_drewN | apply Kd.R_drew)); exact HO_3.out)); (case aS => exact (below_size (by repeat (first | (with_reducible first | exact HB.out | apply below_alloc | apply pw_below_drewN | apply below_drew1) | exact HB.out)))); (case aL => have := LMc27.out; omega); intro v192 w28 ho hb hg hat; rw [← Ny191.out] at ho; have n0_ := Aside0.mk (Kd.R_after (ok := (fun _ => True)) (by (with_reducible repeat (first | apply Kd.R_alloc | apply Kd.R_drewN | apply Kd.R_drew)); exact Kd.R_mono HO_4.out (fun _ hk => ⟨trivial, hk⟩)) hg hat); have n1_ := Aside0.mk (hb); have n2_ := Aside0.mk (ho); clear HO_4; clear HB; clear HO_3; have HO_4 := n0_; have HB := n1_; have HO193 := n2_; clear n0_ n1_ n2_; clear ho hb hg hat)); try go_wp2_with (first | ((with_reducible refine gate_builtin (b := .append) (xs := #[.tmp 57, .tmp 62]) rfl ?_); (try (refine gate_guard (by rfl) ?_; dsimp only)); at_builtin; refine Kd.R_append (Kd.int .i64) (w0 := w) w.heap.size rfl (.tmp 57) (.tmp 62) 22 3 (.int .i64 0) 8 rfl Try.underlying22 info3 rfl (by decide) (by omega) u3 x3_2 (rd x4_1 x6_2) [.int .i64 (rd x4_1 x6_2)] (fun k_ => some k_ ≠ (.slice (some ad190) x4_1.length co23 : Value).ownBlock) (fun _ => False) rfl rfl ?aP (fun _ hk => hk.elim) ?aF ?aO ?aB ?aS ?aL ?_; (case aP => exact rfl); (case aB => exact (by repeat (first | (with_reducible first | exact HB.out | apply below_alloc | apply pw_below_drewN | apply below_drew1) | exact HB.out))); (case aF => exact (fun k_ hk => Kd.fresh' (Kd.R_lt (by (with_reducible repeat (first | apply Kd.R_alloc | apply Kd.R_drewN | apply Kd.R_drew)); exact HO_4.out)) k_ hk)); (case aO => exact (by (with_reducible repeat (first | apply Kd.R_alloc | apply Kd.R_drewN | apply Kd.R_drew)); exact HO_3.out)); (case aS => exact (below_size (by repeat (first | (with_reducible first | exact HB.out | apply below_alloc | apply pw_below_drewN | apply below_drew1) | exact HB.out)))); (case aL => have := LMc27.out; omega); intro v192 w28 ho hb hg hat; rw [← Ny191.out] at ho; have n0_ := Aside0.mk (Kd.R_after (ok := (fun _ => True)) (by (with_reducible repeat (first | apply Kd.R_alloc | apply Kd.R_drewN | apply Kd.R_drew)); exact Kd.R_mono HO_4.out (fun _ hk => ⟨trivial, hk⟩)) hg hat); have n1_ := Aside0.mk (hb); have n2_ := Aside0.mk (ho); clear HO_4; clear HB; clear HO_3; have HO_4 := n0_; have HB := n1_; have HO193 := n2_; clear n0_ n1_ n2_; clear ho hb hg hat)))
                    go_roundg k2
                    case measure => have := HK1.out; have := HK2.out; omega
                    case rel => exact ⟨(y191), (wrap64 (x6_2 - 1)), (by first | rfl | (simp; done) | (simp [*]; done)), H', ⟨by have := HK1.out; have := HK2.out; omega⟩, ⟨by (with_reducible repeat (first | apply Kd.R_alloc | apply Kd.R_drewN | apply Kd.R_drew)); exact HO193.out⟩, ⟨by (with_reducible repeat (first | apply Kd.R_alloc | apply Kd.R_drewN | apply Kd.R_drew)); exact Kd.R_mono HO_4.out (fun _ hk => hk.2)⟩, ⟨by repeat (first | (with_reducible first | exact HB.out | apply below_alloc | apply pw_below_drewN | apply below_drew1) | exact HB.out)⟩⟩
                  · rw [if_neg c27] at H
                    exact absurd H (by simp)
                · rw [if_neg c26] at H
                  exact absurd H (by simp)
              · rw [if_neg c25] at H
                exact absurd H (by simp)
            · rw [if_neg c24] at H
              have c24b0 : decide (0 ≤ x6_2) = false := decide_eq_false c24
              clear c24
              obtain rfl := Option.some.inj H
              go_wp2
              repeat (go_quiet (fail); try go_wp2)
              go_ret
              exact ⟨_, by first | rfl | (simp [errW_none, errW_some] <;> rfl) | (simp [*, errW_none, errW_some] <;> rfl), by (with_reducible repeat (first | apply Kd.R_alloc | apply Kd.R_drewN | apply Kd.R_drew)); exact Kd.R_mono HO_3.out (fun _ hk => trivial), by repeat (first | (with_reducible first | exact HB.out | apply below_alloc | apply pw_below_drewN | apply below_drew1) | exact HB.out)⟩

end Go.Proofs.Ytjbjongahnocdaa.S

namespace Go.Proofs.Ytjbjongahnocdaa.S
open Go.Proofs.Ytjbjongahnocdaa.Lib
open Go.Proofs.Ytjbjongahnocdaa.Defs
open Go.Maps (Keyed)
open Go.RowKit Go.Proofs.YtjbjongahnocdaaW.PrintWords Go.Proofs.YtjbjongahnocdaaW.PrintLast Go.Proofs.YtjbjongahnocdaaW.PrintMore
attribute [local go_sem] max2_int min2_int max_two min_two max_three min_three max_four min_four   -- for this text's walks alone
set_option linter.unusedVariables false
set_option linter.unusedSimpArgs false

/-! ### tickinglaw02_ints: function 23 -/
def tickinglaw02_ints.l0 : Nat → List Int → List Int → Int → Option (Bool)
  | 0, _, _, _ => none
  | k + 1, x0, x1, x5 => if x5 < (x0.length : Int) then (if 0 ≤ x5 then (if x5 < (x1.length : Int) then (if (rd x0 x5) = (rd x1 x5) then (tickinglaw02_ints.l0 k x0 x1 (wrap64 (x5 + 1))) else (some false)) else (none)) else (none)) else (some true)
def tickinglaw02_ints.f (k : Nat) (l0 : List Int) (l1 : List Int) : Option (Bool) := if (l0.length : Int) = (l1.length : Int) then (tickinglaw02_ints.l0 k l0 l1 0) else (some false)
theorem tickinglaw02_ints.mono_l : ∀ k, (∀ y0 y1 y2, LeO (tickinglaw02_ints.l0 k y0 y1 y2) (tickinglaw02_ints.l0 (k + 1) y0 y1 y2))
  | 0 => fun _ _ _ r h => by simp [tickinglaw02_ints.l0] at h
  | k + 1 => by
    have ih0 := tickinglaw02_ints.mono_l k
    · intro y0 y1 y2
      unfold tickinglaw02_ints.l0
      repeat' first
      | (with_reducible exact ih0 _ _ _)
      | (with_reducible exact LeO.refl _)
      | (with_reducible exact LeO.none _)
      | (with_reducible refine LeO.ite ?_ ?_)
      | (with_reducible refine LeO.bind ?_ (fun _ => ?_))
      | exact ih0 _ _ _
      | exact LeO.none _
      | refine LeO.ite ?_ ?_
      | refine LeO.bind ?_ (fun _ => ?_)
theorem tickinglaw02_ints.mono : ∀ a0 a1 k, LeO (tickinglaw02_ints.f k a0 a1) (tickinglaw02_ints.f (k + 1) a0 a1) := by
  intro a0 a1 k
  have ih0 := tickinglaw02_ints.mono_l k
  unfold tickinglaw02_ints.f
  repeat' first
      | (with_reducible exact ih0 _ _ _)
      | (with_reducible exact LeO.refl _)
      | (with_reducible exact LeO.none _)
      | (with_reducible refine LeO.ite ?_ ?_)
      | (with_reducible refine LeO.bind ?_ (fun _ => ?_))
      | exact ih0 _ _ _
      | exact LeO.none _
      | refine LeO.ite ?_ ?_
      | refine LeO.bind ?_ (fun _ => ?_)
set_option maxHeartbeats 8000000 in
set_option maxRecDepth 100000 in
theorem tickinglaw02_ints.calls (k : Nat) (A0 : Option Addr) (c0 : Nat) (l0 : List Int) (A1 : Option Addr) (c1 : Nat) (l1 : List Int) (r : Bool) (w : World) (hr0 : Kd.C (Kd.int .i64) w A0 l0.length l0) (hc0 : l0.length ≤ c0) (hr1 : Kd.C (Kd.int .i64) w A1 l1.length l1) (hc1 : l1.length ≤ c1) (h : tickinglaw02_ints.f k l0 l1 = some r) :
    Calls Try.prog 23 #[.slice A0 l0.length c0, .slice A1 l1.length c1] w fun e w' => e = .returned (.bool r) ∧ Drawn0 w w' := by
  have HR0 := Aside0.mk hr0
  have HC0 := Aside0.mk hc0
  clear hr0 hc0
  have HR1 := Aside0.mk hr1
  have HC1 := Aside0.mk hc1
  clear hr1 hc1
  have H : (if (l0.length : Int) = (l1.length : Int) then (tickinglaw02_ints.l0 k l0 l1 0) else (some false)) = some r := h
  clear h
  by_cases c3 : (l0.length : Int) = (l1.length : Int)
  · rw [if_pos c3] at H
    have c3b0 : ((l0.length : Int) == (l1.length : Int)) = true := beq_iff_eq.mpr c3
    have c3b1 : ((l0.length : Int) != (l1.length : Int)) = false := bne_eq_false_iff_eq.mpr c3
    have c3b2 : (l0.length == l1.length) = true := by first | simpa using c3 | (simp at c3 ⊢; omega)
    clear c3
    have H' := Aside0.mk H
    clear H
    go_enter Try.func23, Try.ntmps23
    go_wp2
    repeat (go_quiet (fail); try go_wp2)
    go_loopg [5] k (fun kq v5 w' => ∃ (x5_1 : Int), v5 = .int .i64 x5_1 ∧ Aside0 (tickinglaw02_ints.l0 kq l0 l1 x5_1 = some r) ∧ Aside0 (kq ≤ k) ∧ Drawn0 w w')
    case atStart => exact ⟨(0), (by first | rfl | (simp; done) | (simp [*]; done)), H', ⟨Nat.le_refl _⟩, by repeat (first | exact Drawn0.refl _ | apply Drawn0.step)⟩
    case round =>
      clear H'
      try clear c1
      try clear c2
      try clear p2
      try clear c3
      try clear c3b0
      try clear c3b1
      try clear c3b2
      obtain ⟨x5_1, rfl, HA, HK1, ⟨m1, rfl⟩⟩ := hrel
      cases gk with
      | zero => exact absurd HA.out (by simp [tickinglaw02_ints.l0])
      | succ k1 =>
        have H := HA.out
        clear HA
        simp only [tickinglaw02_ints.l0] at H
        by_cases c4 : x5_1 < (l0.length : Int)
        · rw [if_pos c4] at H
          have c4b0 : decide (x5_1 < (l0.length : Int)) = true := decide_eq_true c4
          clear c4
          by_cases c5 : 0 ≤ x5_1
          · rw [if_pos c5] at H
            have c5b0 : decide (0 ≤ x5_1) = true := decide_eq_true c5
            clear c5
            by_cases c6 : x5_1 < (l1.length : Int)
            · rw [if_pos c6] at H
              have c6b0 : decide (x5_1 < (l1.length : Int)) = true := decide_eq_true c6
              clear c6
              by_cases c7 : (rd l0 x5_1) = (rd l1 x5_1)
              · rw [if_pos c7] at H
                have c7b0 : ((rd l0 x5_1) == (rd l1 x5_1)) = true := beq_iff_eq.mpr c7
                have c7b1 : ((rd l0 x5_1) != (rd l1 x5_1)) = false := bne_eq_false_iff_eq.mpr c7
                clear c7
                have H' := Aside0.mk H
                clear H
                have p123 : 0 ≤ (x5_1 : Int) := of_decide_eq_true (by first | (with_reducible assumption) | assumption)
                have q123 : x5_1 < (l0.length : Int) := of_decide_eq_true (by first | (with_reducible assumption) | assumption)
                obtain ⟨ad123, e123, hx123_0⟩ := Kd.at_int HR0.out x5_1 p123 q123
                cases e123
                replace p123 := eq_true p123
                replace q123 := eq_true q123
                have p124 : 0 ≤ (x5_1 : Int) := of_decide_eq_true (by first | (with_reducible assumption) | assumption)
                have q124 : x5_1 < (l1.length : Int) := of_decide_eq_true (by first | (with_reducible assumption) | assumption)
                obtain ⟨ad124, e124, hx124_0⟩ := Kd.at_int HR1.out x5_1 p124 q124
                cases e124
                replace p124 := eq_true p124
                replace q124 := eq_true q124
                go_wp2
                repeat (go_quiet (fail); try go_wp2)
                go_roundg k1
                case measure => have := HK1.out; omega
                case rel => exact ⟨(wrap64 (x5_1 + 1)), (by first | rfl | (simp; done) | (simp [*]; done)), H', ⟨by have := HK1.out; omega⟩, by repeat (first | exact Drawn0.refl _ | apply Drawn0.step)⟩
              · rw [if_neg c7] at H
                have c7b0 : ((rd l0 x5_1) == (rd l1 x5_1)) = false := beq_eq_false_iff_ne.mpr c7
                have c7b1 : ((rd l0 x5_1) != (rd l1 x5_1)) = true := bne_iff_ne.mpr c7
                obtain rfl := Option.some.inj H
                have p123 : 0 ≤ (x5_1 : Int) := of_decide_eq_true (by first | (with_reducible assumption) | assumption)
                have q123 : x5_1 < (l0.length : Int) := of_decide_eq_true (by first | (with_reducible assumption) | assumption)
                obtain ⟨ad123, e123, hx123_0⟩ := Kd.at_int HR0.out x5_1 p123 q123
                cases e123
                replace p123 := eq_true p123
                replace q123 := eq_true q123
                have p124 : 0 ≤ (x5_1 : Int) := of_decide_eq_true (by first | (with_reducible assumption) | assumption)
                have q124 : x5_1 < (l1.length : Int) := of_decide_eq_true (by first | (with_reducible assumption) | assumption)
                obtain ⟨ad124, e124, hx124_0⟩ := Kd.at_int HR1.out x5_1 p124 q124
                cases e124
                replace p124 := eq_true p124
                replace q124 := eq_true q124
                go_wp2
                repeat (go_quiet (fail); try go_wp2)
                go_ret
                exact ⟨by first | rfl | (simp; done) | (simp [*]; done), by repeat (first | exact Drawn0.refl _ | apply Drawn0.step)⟩
            · rw [if_neg c6] at H
              exact absurd H (by simp)
          · rw [if_neg c5] at H
            exact absurd H (by simp)
        · rw [if_neg c4] at H
          have c4b0 : decide (x5_1 < (l0.length : Int)) = false := decide_eq_false c4
          clear c4
          obtain rfl := Option.some.inj H
          go_wp2
          repeat (go_quiet (fail); try go_wp2)
          go_ret
          exact ⟨by first | rfl | (simp; done) | (simp [*]; done), by repeat (first | exact Drawn0.refl _ | apply Drawn0.step)⟩
  · rw [if_neg c3] at H
    have c3b0 : ((l0.length : Int) == (l1.length : Int)) = false := beq_eq_false_iff_ne.mpr c3
    have c3b1 : ((l0.length : Int) != (l1.length : Int)) = true := bne_iff_ne.mpr c3
    have c3b2 : (l0.length == l1.length) = false := by first | simpa using c3 | (simp at c3 ⊢; omega)
    obtain rfl := Option.some.inj H
    go_enter Try.func23, Try.ntmps23
    go_wp2
    repeat (go_quiet (fail); try go_wp2)
    go_ret
    exact ⟨by first | rfl | (simp; done) | (simp [*]; done), by repeat (first | exact Drawn0.refl _ | apply Drawn0.step)⟩

end Go.Proofs.Ytjbjongahnocdaa.S

namespace Go.Proofs.Ytjbjongahnocdaa.S
open Go.Proofs.Ytjbjongahnocdaa.Lib
open Go.Proofs.Ytjbjongahnocdaa.Defs
open Go.Maps (Keyed)
open Go.RowKit Go.Proofs.YtjbjongahnocdaaW.PrintWords Go.Proofs.YtjbjongahnocdaaW.PrintLast Go.Proofs.YtjbjongahnocdaaW.PrintMore
attribute [local go_sem] max2_int min2_int max_two min_two max_three min_three max_four min_four   -- for this text's walks alone
set_option linter.unusedVariables false
set_option linter.unusedSimpArgs false

/-! ### shunt_counts: function 54 -/
mutual
def shunt_counts.l0 : Nat → Int → List Int → Int → Option (List Int)
  | 0, _, _, _ => none
  | k + 1, x0, x3, x4 => if x4 ≤ x0 then (shunt_counts.l1 k x0 x3 x4 0 x4 0) else (some x3)
def shunt_counts.l1 : Nat → Int → List Int → Int → Int → Int → Int → Option (List Int)
  | 0, _, _, _, _, _, _ => none
  | k + 1, x0, x3, x4, x5, x13, x14 => if x14 < x13 then (if 0 ≤ x14 then (if x14 < (x3.length : Int) then (if 0 ≤ (wrap64 ((wrap64 (x4 - 1)) - x14)) then (if (wrap64 ((wrap64 (x4 - 1)) - x14)) < (x3.length : Int) then (shunt_counts.l1 k x0 x3 x4 (wrap64 (x5 + (wrap64 ((rd x3 x14) * (rd x3 (wrap64 ((wrap64 (x4 - 1)) - x14))))))) x13 (wrap64 (x14 + 1))) else (none)) else (none)) else (none)) else (none)) else (if x3.length < 17592186044416 then (shunt_counts.l0 k x0 (x3 ++ [x5]) (wrap64 (x4 + 1))) else (none))
end
def shunt_counts.f (k : Nat) (a0 : Int) : Option (List Int) := shunt_counts.l0 k a0 (([1] : List Int)) 1
theorem shunt_counts.mono_l : ∀ k, (∀ y0 y1 y2, LeO (shunt_counts.l0 k y0 y1 y2) (shunt_counts.l0 (k + 1) y0 y1 y2)) ∧ (∀ y0 y1 y2 y3 y4 y5, LeO (shunt_counts.l1 k y0 y1 y2 y3 y4 y5) (shunt_counts.l1 (k + 1) y0 y1 y2 y3 y4 y5))
  | 0 => ⟨fun _ _ _ r h => by simp [shunt_counts.l0] at h, fun _ _ _ _ _ _ r h => by simp [shunt_counts.l1] at h⟩
  | k + 1 => by
    obtain ⟨ih0, ih1⟩ := shunt_counts.mono_l k
    refine ⟨?_, ?_⟩
    · intro y0 y1 y2
      unfold shunt_counts.l0
      repeat' first
      | (with_reducible exact ih0 _ _ _)
      | (with_reducible exact ih1 _ _ _ _ _ _)
      | (with_reducible exact LeO.refl _)
      | (with_reducible exact LeO.none _)
      | (with_reducible refine LeO.ite ?_ ?_)
      | (with_reducible refine LeO.bind ?_ (fun _ => ?_))
      | exact ih0 _ _ _
      | exact ih1 _ _ _ _ _ _
      | exact LeO.none _
      | refine LeO.ite ?_ ?_
      | refine LeO.bind ?_ (fun _ => ?_)
    · intro y0 y1 y2 y3 y4 y5
      unfold shunt_counts.l1
      repeat' first
      | (with_reducible exact ih0 _ _ _)
      | (with_reducible exact ih1 _ _ _ _ _ _)
      | (with_reducible exact LeO.refl _)
      | (with_reducible exact LeO.none _)
      | (with_reducible refine LeO.ite ?_ ?_)
      | (with_reducible refine LeO.bind ?_ (fun _ => ?_))
      | exact ih0 _ _ _
      | exact ih1 _ _ _ _ _ _
      | exact LeO.none _
      | refine LeO.ite ?_ ?_
      | refine LeO.bind ?_ (fun _ => ?_)
theorem shunt_counts.mono : ∀ a0 k, LeO (shunt_counts.f k a0) (shunt_counts.f (k + 1) a0) := by
  intro a0 k
  obtain ⟨ih0, ih1⟩ := shunt_counts.mono_l k
  unfold shunt_counts.f
  repeat' first
      | (with_reducible exact ih0 _ _ _)
      | (with_reducible exact ih1 _ _ _ _ _ _)
      | (with_reducible exact LeO.refl _)
      | (with_reducible exact LeO.none _)
      | (with_reducible refine LeO.ite ?_ ?_)
      | (with_reducible refine LeO.bind ?_ (fun _ => ?_))
      | exact ih0 _ _ _
      | exact ih1 _ _ _ _ _ _
      | exact LeO.none _
      | refine LeO.ite ?_ ?_
      | refine LeO.bind ?_ (fun _ => ?_)
set_option maxHeartbeats 8000000 in
set_option maxRecDepth 100000 in
theorem shunt_counts.calls (k : Nat) (a0 : Int) (r : List Int) (w : World) (h : shunt_counts.f k a0 = some r) :
    Calls Try.prog 54 #[.int .i64 a0] w fun e w' => ∃ v0_ : Value, e = .returned (v0_) ∧ Kd.R (Kd.int .i64) 3 w' w.heap.size (fun _ => True) v0_ r ∧ Below w.heap.size w w' := by
  have HB := Aside0.mk (Below.refl w.heap.size w)
  have H : (shunt_counts.l0 k a0 (([1] : List Int)) 1) = some r := h
  clear h
  obtain ⟨y109, hy109⟩ : ∃ y_ : List Int, y_ = (([1] : List Int)) := ⟨_, rfl⟩
  replace H : (shunt_counts.l0 k a0 y109 1) = some r := by first | (rw [hy109]; with_reducible exact H) | (have H2_ := (Option.bind_some _ _).symm.trans H; rw [hy109]; with_reducible exact H2_) | (have H2_ := (Option.bind_some _ _).symm.trans H; with_reducible exact H2_) | with_reducible exact H | (rw [hy109]; exact H) | exact H
  have Ny109 := Aside0.mk hy109
  clear hy109
  have H' := Aside0.mk H
  clear H
  go_enter Try.func54, Try.ntmps54
  go_wp2_with (first | ((with_reducible refine gate_dst (N := 7) rfl ?_); refine Kd.R_lit (Kd.int .i64) _ 3 ?hg (N := 7) ?hd (xs := ([1] : List Int)) (inner := [.int .i64 1]) (ok := fun _ => True) (okp := fun _ => True) ?hr ?hp (fun _ hk => hk) trivial (Below.refl _ _) (Nat.le_refl _) (by simp) ?_; (case hd => rfl); (case hg => rfl); (case hr => first | (go_simp; done) | (go_simp; rfl)); (case hp => exact (Reps.one (show Kd.M (Kd.int .i64) _ _ _ 1 [.int .i64 1] from rfl) (Reps.none _ _))); intro v110 w2 ho3 hb hg_ hnew_; clear hg_ hnew_; (first | rw [← Ny109.out] at ho3 | (simp only [Int.reduceToNat] at ho3; rw [← Ny109.out] at ho3)); have n0_ := Aside0.mk (Kd.R_lower ho3 (below_size (by repeat (first | (with_reducible first | exact HB.out | apply below_alloc | apply pw_below_drewN | apply below_drew1) | exact HB.out)))); have n1_ := Aside0.mk (below_step (by repeat (first | (with_reducible first | exact HB.out | apply below_alloc | apply pw_below_drewN | apply below_drew1) | exact HB.out)) hb); clear HB; have HO111 := n0_; have HB := n1_; clear n0_ n1_; clear hb ho3))
  repeat (go_quiet (first | ((with_reducible refine gate_dst (N := 7) rfl ?_); refine Kd.R_lit (Kd.int .i64) _ 3 ?hg (N := 7) ?hd (xs := ([1] : List Int)) (inner := [.int .i64 1]) (ok := fun _ => True) (okp := fun _ => True) ?hr ?hp (fun _ hk => hk) trivial (Below.refl _ _) (Nat.le_refl _) (by simp) ?_; (case hd => rfl); (case hg => rfl); (case hr => first | (go_simp; done) | (go_simp; rfl)); (case hp => exact (Reps.one (show Kd.M (Kd.int .i64) _ _ _ 1 [.int .i64 1] from rfl) (Reps.none _ _))); intro v110 w2 ho3 hb hg_ hnew_; clear hg_ hnew_; (first | rw [← Ny109.out] at ho3 | (simp only [Int.reduceToNat] at ho3; rw [← Ny109.out] at ho3)); have n0_ := Aside0.mk (Kd.R_lower ho3 (below_size (by repeat (first | (with_reducible first | exact HB.out | apply below_alloc | apply pw_below_drewN | apply below_drew1) | exact HB.out)))); have n1_ := Aside0.mk (below_step (by repeat (first | (with_reducible first | exact HB.out | apply below_alloc | apply pw_below_drewN | apply below_drew1) | exact HB.out)) hb); clear HB; have HO111 := n0_; have HB := n1_; clear n0_ n1_; clear hb ho3)); try go_wp2_with (first | ((with_reducible refine gate_dst (N := 7) rfl ?_); refine Kd.R_lit (Kd.int .i64) _ 3 ?hg (N := 7) ?hd (xs := ([1] : List Int)) (inner := [.int .i64 1]) (ok := fun _ => True) (okp := fun _ => True) ?hr ?hp (fun _ hk => hk) trivial (Below.refl _ _) (Nat.le_refl _) (by simp) ?_; (case hd => rfl); (case hg => rfl); (case hr => first | (go_simp; done) | (go_simp; rfl)); (case hp => exact (Reps.one (show Kd.M (Kd.int .i64) _ _ _ 1 [.int .i64 1] from rfl) (Reps.none _ _))); intro v110 w2 ho3 hb hg_ hnew_; clear hg_ hnew_; (first | rw [← Ny109.out] at ho3 | (simp only [Int.reduceToNat] at ho3; rw [← Ny109.out] at ho3)); have n0_ := Aside0.mk (Kd.R_lower ho3 (below_size (by repeat (first | (with_reducible first | exact HB.out | apply below_alloc | apply pw_below_drewN | apply below_drew1) | exact HB.out)))); have n1_ := Aside0.mk (below_step (by repeat (first | (with_reducible first | exact HB.out | apply below_alloc | apply pw_below_drewN | apply below_drew1) | exact HB.out)) hb); clear HB; have HO111 := n0_; have HB := n1_; clear n0_ n1_; clear hb ho3)))
  go_loopg [3, 4] k (fun kq v3 v4 w' => ∃ (x3_1 : List Int) (x4_1 : Int), v4 = .int .i64 x4_1 ∧ Aside0 (shunt_counts.l0 kq a0 x3_1 x4_1 = some r) ∧ Aside0 (kq ≤ k) ∧ Aside0 (Kd.R (Kd.int .i64) 3 w' w.heap.size (fun _ => True) v3 x3_1) ∧ Aside0 (Below w.heap.size w w'))
  case atStart => exact ⟨(y109), (1), (by first | rfl | (simp; done) | (simp [*]; done)), H', ⟨Nat.le_refl _⟩, ⟨by (with_reducible repeat (first | apply Kd.R_alloc | apply Kd.R_drewN | apply Kd.R_drew)); exact HO111.out⟩, ⟨by repeat (first | (with_reducible first | exact HB.out | apply below_alloc | apply pw_below_drewN | apply below_drew1) | exact HB.out)⟩⟩
  case round =>
    clear H'
    try clear p2
    obtain ⟨x3_1, x4_1, rfl, HA, HK1, HO_3, HB⟩ := hrel
    cases gk with
    | zero => exact absurd HA.out (by simp [shunt_counts.l0])
    | succ k1 =>
      have H := HA.out
      clear HA
      simp only [shunt_counts.l0] at H
      by_cases c4 : x4_1 ≤ a0
      · rw [if_pos c4] at H
        have c4b0 : decide (x4_1 ≤ a0) = true := decide_eq_true c4
        clear c4
        have H' := Aside0.mk H
        clear H
        go_wp2
        repeat (go_quiet (fail); try go_wp2)
        go_loopg [5, 14] k1 (fun kq v5 v14 w' => ∃ (x5_2 : Int) (x14_2 : Int), v5 = .int .i64 x5_2 ∧ v14 = .int .i64 x14_2 ∧ Aside0 (shunt_counts.l1 kq a0 x3_1 x4_1 x5_2 x4_1 x14_2 = some r) ∧ Aside0 (kq ≤ k1) ∧ Aside0 (Kd.R (Kd.int .i64) 3 w' w.heap.size (fun _ => True) u3 x3_1) ∧ Aside0 (Below w.heap.size w w'))
        case atStart => exact ⟨(0), (0), (by first | rfl | (simp; done) | (simp [*]; done)), (by first | rfl | (simp; done) | (simp [*]; done)), H', ⟨Nat.le_refl _⟩, ⟨by (with_reducible repeat (first | apply Kd.R_alloc | apply Kd.R_drewN | apply Kd.R_drew)); exact HO_3.out⟩, ⟨by repeat (first | (with_reducible first | exact HB.out | apply below_alloc | apply pw_below_drewN | apply below_drew1) | exact HB.out)⟩⟩
        case round =>
          clear H'
          try clear p2
          try clear c4
          try clear c4b0
          try clear p2
          obtain ⟨x5_2, x14_2, rfl, rfl, HA, HK2, HO_3, HB⟩ := hrel
          cases gk with
          | zero => exact absurd HA.out (by simp [shunt_counts.l1])
          | succ k2 =>
            have H := HA.out
            clear HA
            simp only [shunt_counts.l1] at H
            by_cases c5 : x14_2 < x4_1
            · rw [if_pos c5] at H
              have c5b0 : decide (x14_2 < x4_1) = true := decide_eq_true c5
              clear c5
              by_cases c6 : 0 ≤ x14_2
              · rw [if_pos c6] at H
                have c6b0 : decide (0 ≤ x14_2) = true := decide_eq_true c6
                clear c6
                by_cases c7 : x14_2 < (x3_1.length : Int)
                · rw [if_pos c7] at H
                  have c7b0 : decide (x14_2 < (x3_1.length : Int)) = true := decide_eq_true c7
                  clear c7
                  obtain ⟨ji8, hji8⟩ : ∃ j_ : Int, (wrap64 ((wrap64 (x4_1 - 1)) - x14_2)) = j_ := ⟨_, rfl⟩
                  replace H : (if 0 ≤ (ji8) then (if (ji8) < (x3_1.length : Int) then (shunt_counts.l1 k2 a0 x3_1 x4_1 (wrap64 (x5_2 + (wrap64 ((rd x3_1 x14_2) * (rd x3_1 (ji8)))))) x4_1 (wrap64 (x14_2 + 1))) else (none)) else (none)) = some r := by first | (rw [hji8] at H; exact H) | (simp only [hji8] at H ⊢; exact H)
                  have hji8w : (IntKind.i64.wrap ((wrap64 (x4_1 - 1)) - x14_2)) = ji8 := (i64_w _).trans hji8
                  by_cases c9 : 0 ≤ (ji8)
                  · rw [if_pos c9] at H
                    have c9b0 : decide (0 ≤ (ji8)) = true := decide_eq_true c9
                    clear c9
                    by_cases c10 : (ji8) < (x3_1.length : Int)
                    · rw [if_pos c10] at H
                      have c10b0 : decide ((ji8) < (x3_1.length : Int)) = true := decide_eq_true c10
                      clear c10
                      have H' := Aside0.mk H
                      clear H
                      obtain ⟨Ao11, co11, eo11⟩ := Kd.R_slice HO_3.out
                      subst eo11
                      have p112 : 0 ≤ (x14_2 : Int) := of_decide_eq_true (by first | (with_reducible assumption) | assumption)
                      have q112 : x14_2 < (x3_1.length : Int) := of_decide_eq_true (by first | (with_reducible assumption) | assumption)
                      obtain ⟨ad112, e112, hx112_0⟩ := Kd.at_int (Kd.R_reads' HO_3.out).2.2 x14_2 p112 q112
                      cases e112
                      replace p112 := eq_true p112
                      replace q112 := eq_true q112
                      have p113 : 0 ≤ ((ji8) : Int) := of_decide_eq_true (by first | (with_reducible assumption) | assumption)
                      have q113 : (ji8) < (x3_1.length : Int) := of_decide_eq_true (by first | (with_reducible assumption) | assumption)
                      obtain ⟨ad113, e113, hx113_0⟩ := Kd.at_int (Kd.R_reads' HO_3.out).2.2 (ji8) p113 q113
                      obtain rfl : ad112 = ad113 := (by injection e113)
                      replace p113 := eq_true p113
                      replace q113 := eq_true q113
                      go_wp2
                      repeat (go_quiet (fail); try go_wp2)
                      go_roundg k2
                      case measure => have := HK1.out; have := HK2.out; omega
                      case rel => exact ⟨(wrap64 (x5_2 + (wrap64 ((rd x3_1 x14_2) * (rd x3_1 (ji8)))))), (wrap64 (x14_2 + 1)), (by first | rfl | (simp; done) | (simp only [← hji8] <;> (first | rfl | simp)) | (simp [*]; done)), (by first | rfl | (simp; done) | (simp [*]; done)), H', ⟨by have := HK1.out; have := HK2.out; omega⟩, ⟨by (with_reducible repeat (first | apply Kd.R_alloc | apply Kd.R_drewN | apply Kd.R_drew)); exact HO_3.out⟩, ⟨by repeat (first | (with_reducible first | exact HB.out | apply below_alloc | apply pw_below_drewN | apply below_drew1) | exact HB.out)⟩⟩
                    · rw [if_neg c10] at H
                      exact absurd H (by simp)
                  · rw [if_neg c9] at H
                    exact absurd H (by simp)
                · rw [if_neg c7] at H
                  exact absurd H (by simp)
              · rw [if_neg c6] at H
                exact absurd H (by simp)
            · rw [if_neg c5] at H
              have c5b0 : decide (x14_2 < x4_1) = false := decide_eq_false c5
              clear c5
              by_cases c12 : x3_1.length < 17592186044416
              · rw [if_pos c12] at H
                have LMc12 := Aside0.mk c12
                clear c12
                obtain ⟨y114, hy114⟩ : ∃ y_ : List Int, y_ = (x3_1 ++ [x5_2]) := ⟨_, rfl⟩
                replace H : (shunt_counts.l0 k2 a0 y114 (wrap64 (x4_1 + 1))) = some r := by first | (rw [hy114]; with_reducible exact H) | (have H2_ := (Option.bind_some _ _).symm.trans H; rw [hy114]; with_reducible exact H2_) | (have H2_ := (Option.bind_some _ _).symm.trans H; with_reducible exact H2_) | with_reducible exact H | (rw [hy114]; exact H) | exact H
                have Ny114 := Aside0.mk hy114
                clear hy114
                have H' := Aside0.mk H
                clear H
                go_wp2_with (first | ((with_reducible refine gate_builtin (b := .append) (xs := #[.tmp 32, .tmp 34]) rfl ?_); at_builtin; refine Kd.R_append (Kd.int .i64) (w0 := w) w.heap.size rfl (.tmp 32) (.tmp 34) 22 3 (.int .i64 0) 8 rfl Try.underlying22 info3 rfl (by decide) (by omega) u3 x3_1 x5_2 [.int .i64 x5_2] (fun _ => True) (fun _ => False) rfl rfl ?aP (fun _ hk => hk.elim) ?aF ?aO ?aB ?aS ?aL ?_; (case aP => exact rfl); (case aB => exact (by repeat (first | (with_reducible first | exact HB.out | apply below_alloc | apply pw_below_drewN | apply below_drew1) | exact HB.out))); (case aF => exact (fun _ _ => trivial)); (case aO => exact (by (with_reducible repeat (first | apply Kd.R_alloc | apply Kd.R_drewN | apply Kd.R_drew)); exact HO_3.out)); (case aS => exact (below_size (by repeat (first | (with_reducible first | exact HB.out | apply below_alloc | apply pw_below_drewN | apply below_drew1) | exact HB.out)))); (case aL => have := LMc12.out; omega); intro v115 w13 ho hb hg hat; rw [← Ny114.out] at ho; have n0_ := Aside0.mk (hb); have n1_ := Aside0.mk (ho); clear HB; clear HO_3; have HB := n0_; have HO116 := n1_; clear n0_ n1_; clear ho hb hg hat))
                repeat (go_quiet (first | ((with_reducible refine gate_builtin (b := .append) (xs := #[.tmp 32, .tmp 34]) rfl ?_); at_builtin; refine Kd.R_append (Kd.int .i64) (w0 := w) w.heap.size rfl (.tmp 32) (.tmp 34) 22 3 (.int .i64 0) 8 rfl Try.underlying22 info3 rfl (by decide) (by omega) u3 x3_1 x5_2 [.int .i64 x5_2] (fun _ => True) (fun _ => False) rfl rfl ?aP (fun _ hk => hk.elim) ?aF ?aO ?aB ?aS ?aL ?_; (case aP => exact rfl); (case aB => exact (by repeat (first | (with_reducible first | exact HB.out | apply below_alloc | apply pw_below_drewN | apply below_drew1) | exact HB.out))); (case aF => exact (fun _ _ => trivial)); (case aO => exact (by (with_reducible repeat (first | apply Kd.R_alloc | apply Kd.R_drewN | apply Kd.R_drew)); exact HO_3.out)); (case aS => exact (below_size (by repeat (first | (with_reducible first | exact HB.out | apply below_alloc | apply pw_below_drewN | apply below_drew1) | exact HB.out)))); (case aL => have := LMc12.out; omega); intro v115 w13 ho hb hg hat; rw [← Ny114.out] at ho; have n0_ := Aside0.mk (hb); have n1_ := Aside0.mk (ho); clear HB; clear HO_3; have HB := n0_; have HO116 := n1_; clear n0_ n1_; clear ho hb hg hat)); try go_wp2_with (first | ((with_reducible refine gate_builtin (b := .append) (xs := #[.tmp 32, .tmp 34]) rfl ?_); at_builtin; refine Kd.R_append (Kd.int .i64) (w0 := w) w.heap.size rfl (.tmp 32) (.tmp 34) 22 3 (.int .i64 0) 8 rfl Try.underlying22 info3 rfl (by decide) (by omega) u3 x3_1 x5_2 [.int .i64 x5_2] (fun _ => True) (fun _ => False) rfl rfl ?aP (fun _ hk => hk.elim) ?aF ?aO ?aB ?aS ?aL ?_; (case aP => exact rfl); (case aB => exact (by repeat (first | (with_reducible first | exact HB.out | apply below_alloc | apply pw_below_drewN | apply below_drew1) | exact HB.out))); (case aF => exact (fun _ _ => trivial)); (case aO => exact (by (with_reducible repeat (first | apply Kd.R_alloc | apply Kd.R_drewN | apply Kd.R_drew)); exact HO_3.out)); (case aS => exact (below_size (by repeat (first | (with_reducible first | exact HB.out | apply below_alloc | apply pw_below_drewN | apply below_drew1) | exact HB.out)))); (case aL => have := LMc12.out; omega); intro v115 w13 ho hb hg hat; rw [← Ny114.out] at ho; have n0_ := Aside0.mk (hb); have n1_ := Aside0.mk (ho); clear HB; clear HO_3; have HB := n0_; have HO116 := n1_; clear n0_ n1_; clear ho hb hg hat)))
                go_roundg k2
                case measure => have := HK1.out; have := HK2.out; omega
                case rel => exact ⟨(y114), (wrap64 (x4_1 + 1)), (by first | rfl | (simp; done) | (simp [*]; done)), H', ⟨by have := HK1.out; have := HK2.out; omega⟩, ⟨by (with_reducible repeat (first | apply Kd.R_alloc | apply Kd.R_drewN | apply Kd.R_drew)); exact HO116.out⟩, ⟨by repeat (first | (with_reducible first | exact HB.out | apply below_alloc | apply pw_below_drewN | apply below_drew1) | exact HB.out)⟩⟩
              · rw [if_neg c12] at H
                exact absurd H (by simp)
      · rw [if_neg c4] at H
        have c4b0 : decide (x4_1 ≤ a0) = false := decide_eq_false c4
        clear c4
        obtain rfl := Option.some.inj H
        go_wp2
        repeat (go_quiet (fail); try go_wp2)
        go_ret
        exact ⟨_, by first | rfl | (simp [errW_none, errW_some] <;> rfl) | (simp [*, errW_none, errW_some] <;> rfl), by (with_reducible repeat (first | apply Kd.R_alloc | apply Kd.R_drewN | apply Kd.R_drew)); exact HO_3.out, by repeat (first | (with_reducible first | exact HB.out | apply below_alloc | apply pw_below_drewN | apply below_drew1) | exact HB.out)⟩

end Go.Proofs.Ytjbjongahnocdaa.S

namespace Go.Proofs.Ytjbjongahnocdaa.S
open Go.Proofs.Ytjbjongahnocdaa.Lib
open Go.Proofs.Ytjbjongahnocdaa.Defs
open Go.Maps (Keyed)
open Go.RowKit Go.Proofs.YtjbjongahnocdaaW.PrintWords Go.Proofs.YtjbjongahnocdaaW.PrintLast Go.Proofs.YtjbjongahnocdaaW.PrintMore
attribute [local go_sem] max2_int min2_int max_two min_two max_three min_three max_four min_four   -- for this text's walks alone
set_option linter.unusedVariables false
set_option linter.unusedSimpArgs false

/-! ### shunt_Rank: function 19 -/
set_option maxHeartbeats 4000000 in
set_option maxRecDepth 100000 in
theorem rank_fn.calls (all : List Int) (Aa : Option Addr) (ca pa pf : Nat) (k : Nat) : ∀ (A : Option Addr) (c : Nat) (l : List Int) (less r : Int) (w : World)
    (ha : w.cell? ⟨pa, 0, none⟩ = some (.slice Aa all.length ca)) (hf : w.cell? ⟨pf, 0, none⟩ = some (.func (.func 55) #[] #[.pointer (some ⟨pa, 0, none⟩), .pointer (some ⟨pf, 0, none⟩)])) (hra : Kd.C (Kd.int .i64) w Aa all.length all) (hm : all.length ≤ 100)
    (hr : Kd.C (Kd.int .i64) w A l.length l) (hc : l.length ≤ c) (h : rankF all k l less = some r),
    Calls Try.prog 55 #[.slice A l.length c, .int .i64 less, .pointer (some ⟨pa, 0, none⟩), .pointer (some ⟨pf, 0, none⟩)] w fun e w' => e = .returned (.int .i64 r) ∧ Drawn0 w w' := by
  induction k with
  | zero => intro A c l less r w ha hf hra hm hr hc h; cases h
  | succ k ih =>
    intro A c l less r w ha hf hra hm hr hc h
    cases l with
    | nil =>
      obtain rfl : 0 = r := Option.some.inj h
      clear ih hr hra hf ha
      go_enter Try.func55, Try.ntmps55
      go_wp2
      go_ret
      exact ⟨rfl, Drawn0.refl _⟩
    | cons x t =>
      obtain ⟨l, hl⟩ : ∃ l, l = x :: t := ⟨_, rfl⟩
      unfold rankF at h
      rw [← hl] at hr hc h ⊢
      have hn1 : 0 < l.length := by rw [hl]; simp
      by_cases hcond : 0 ≤ less ∧ less ≤ 100 ∧ 0 ≤ x ∧ x ≤ 100 ∧ 1 ≤ x - less ∧ x - less ≤ l.length ∧ l.length < all.length
      case neg => rw [if_neg hcond] at h; cases h
      rw [if_pos hcond] at h
      obtain ⟨b1, b2, b3, b4, b5, b6, b7⟩ := hcond
      replace h := Option.bind_eq_some_iff.mp h
      obtain ⟨a, ha1, h⟩ := h
      replace h := Option.bind_eq_some_iff.mp h
      obtain ⟨b, hb1, h⟩ := h
      replace h := Option.some.inj h
      obtain ⟨first, hfirst⟩ : ∃ first, x - less = first := ⟨_, rfl⟩
      rw [hfirst] at ha1 hb1 h b5 b6
      obtain ⟨S, hS⟩ : ∃ S, rankSum all l.length first (first - 1).toNat 1 0 = S := ⟨_, rfl⟩
      rw [hS] at h
      obtain ⟨ad, ea, hx⟩ := Kd.at_int hr 0 (by omega) (by omega)
      cases ea
      have hx0 : rd l 0 = x := by rw [hl]; rfl
      rw [hx0] at hx
      replace hx : w.cell? ad = some (.int .i64 x) := by
        have e0 : ad.add (Int.toNat 0) = ad := by unfold Addr.add; split <;> simp_all
        rw [e0] at hx; exact hx
      obtain ⟨i0, hi0, _, hsz0, _⟩ := info_parts info3
      have hc1 := cut_mid (P := Try.prog) 22 3 .i64 .i64 Try.underlying22 hi0 1 hsz0 (some ad) l.length c 1 first (by omega) (by omega) (by omega) hc
      have hc2 := cut_from (P := Try.prog) 22 3 .i64 Try.underlying22 hi0 1 hsz0 (some ad) l.length c first (by omega) (by omega)
      have hr1 := Kd.C_mid (lo := 1) (hi := first.toNat) hr (by omega) (by omega) hc
      have hr2 := Kd.C_drop (m := first.toNat) hr (by omega) hc
      have e1 : ((l.take first.toNat).drop 1).length = first.toNat - (1 : Int).toNat := by simp; omega
      have e2 : (l.drop first.toNat).length = l.length - first.toNat := by simp
      obtain ⟨l1, hl1⟩ : ∃ l1, (l.take first.toNat).drop 1 = l1 := ⟨_, rfl⟩
      obtain ⟨l2, hl2⟩ : ∃ l2, l.drop first.toNat = l2 := ⟨_, rfl⟩
      rw [hl1] at hr1 ha1 e1
      rw [hl2] at hr2 hb1 e2
      rw [← e1] at hc1
      rw [← e2] at hc2
      have hs1 : (Kd.int .i64).sz = 1 := rfl
      rw [hs1] at hr1 hr2
      obtain ⟨A1, hA1⟩ : ∃ A1, (if c = 1 then (some ad : Option Addr) else (some ad : Option Addr).map (·.add (1 * 1))) = A1 := ⟨_, rfl⟩
      obtain ⟨A2, hA2⟩ : ∃ A2, (if c = first.toNat then (some ad : Option Addr) else (some ad : Option Addr).map (·.add (first.toNat * 1))) = A2 := ⟨_, rfl⟩
      rw [show (1 : Int).toNat = 1 from rfl] at hc1
      rw [hA1] at hc1 hr1
      rw [hA2] at hc2 hr2
      have HI1 := Aside0.mk (fun n => ih A1 (c - 1) l1 less a (w.drewN n) ha hf (Kd.C_drewN hra n) hm (Kd.C_drewN hr1 n) (by omega) ha1)
      have HI2 := Aside0.mk (fun n => ih A2 (c - first.toNat) l2 (less + first) b (w.drewN n) ha hf (Kd.C_drewN hra n) hm (Kd.C_drewN hr2 n) (by omega) hb1)
      have HCA := Aside0.mk hra
      have HS := Aside0.mk hS
      have HH := Aside0.mk h
      have hne : ((l.length : Int) == 0) = false := by rw [beq_eq_false_iff_ne]; omega
      have hne' : (l.length == 0) = false := by rw [beq_eq_false_iff_ne]; omega
      clear hr hr1 hr2 ih hra hS h ha1 hb1 hl hl1 hl2 hA1 hA2 e1 e2 hs1 hi0 hsz0 hx0
      go_enter Try.func55, Try.ntmps55
      go_wp2
      go_loopg [9, 10] (first - 1).toNat (fun kq v9 v10 wr => ∃ (sum i : Int), v9 = .int .i64 sum ∧ v10 = .int .i64 i ∧ Aside0 (kq = (first - i).toNat ∧ 1 ≤ i ∧ i ≤ first) ∧ Aside0 (rankSum all l.length first kq i sum = S) ∧ Drawn0 w wr)
      case atStart => exact ⟨0, 1, rfl, rfl, ⟨rfl, by omega, by omega⟩, HS, by repeat (first | exact Drawn0.refl _ | apply Drawn0.step)⟩
      case round =>
        clear HS
        obtain ⟨sum, i, rfl, rfl, HK, HS, ⟨nd, rfl⟩⟩ := hrel
        obtain ⟨k0, k1, k2⟩ := HK.out
        by_cases c2 : i < first
        · have c2b0 : decide (i < first) = true := decide_eq_true c2
          obtain ⟨m, hm1⟩ : ∃ m, gk = m + 1 := ⟨gk - 1, by omega⟩
          have HS2 := Aside0.mk (show rankSum all l.length first m (i + 1) (wrap64 (sum + wrap64 (all.getD (i - 1).toNat 0 * all.getD ((l.length : Int) - i).toNat 0))) = S by rw [← HS.out, hm1]; rfl)
          obtain ⟨j1, hj1⟩ : ∃ j1, j1 = i - 1 := ⟨_, rfl⟩
          obtain ⟨j2, hj2⟩ : ∃ j2, j2 = (l.length : Int) - i := ⟨_, rfl⟩
          have p1 : 0 ≤ j1 := by omega
          have q1 : j1 < all.length := by omega
          have p2 : 0 ≤ j2 := by omega
          have q2 : j2 < all.length := by omega
          obtain ⟨ad1, e1, hx1⟩ := Kd.at_int HCA.out j1 p1 q1
          obtain ⟨ad2, e2, hx2⟩ := Kd.at_int HCA.out j2 p2 q2
          cases e1
          obtain rfl : ad1 = ad2 := by injection e2
          have hw1 : IntKind.i64.wrap (i - 1) = j1 := by rw [IntWalk.i64_in _ (by omega), hj1]
          have hw2 : IntKind.i64.wrap ((l.length : Int) - i) = j2 := by rw [IntWalk.i64_in _ (by omega), hj2]
          rw [← hj1, ← hj2] at HS2
          have HK2 := Aside0.mk (show m = (first - (i + 1)).toNat ∧ 1 ≤ i + 1 ∧ i + 1 ≤ first by omega)
          have HM := Aside0.mk (show m < gk by omega)
          have p1e := eq_true p1
          have q1e := eq_true q1
          have p2e := eq_true p2
          have q2e := eq_true q2
          have hi100 : i ≤ 200 := by omega
          clear hj1 hj2 e2 k0 c2 p1 q1 p2 q2 hm1
          go_wp2
          repeat (go_quiet (fail); try go_wp2)
          go_roundg m
          case measure => exact HM.out
          case rel => exact ⟨_, i + 1, rfl, rfl, HK2, HS2, by repeat (first | exact Drawn0.refl _ | apply Drawn0.step)⟩
        · have c2b0 : decide (i < first) = false := decide_eq_false c2
          have hsum : sum = S := by
            have hz : gk = 0 := by omega
            rw [← HS.out, hz]
            rfl
          subst hsum
          obtain ⟨j1, hj1⟩ : ∃ j1, j1 = (l.length : Int) - first := ⟨_, rfl⟩
          have p1 : 0 ≤ j1 := by omega
          have q1 : j1 < all.length := by omega
          obtain ⟨ad1, e1, hx1⟩ := Kd.at_int HCA.out j1 p1 q1
          cases e1
          have hw1 : IntKind.i64.wrap ((l.length : Int) - first) = j1 := by rw [IntWalk.i64_in _ (by omega), hj1]
          have hw2 : IntKind.i64.wrap (less + first) = less + first := by rw [IntWalk.i64_in _ (by omega)]
          have hfin : wrap64 (wrap64 (sum + wrap64 (a * rd all j1)) + b) = r := by
            have := HH.out
            rw [← hj1] at this
            exact this
          have HF := Aside0.mk hfin
          have p1e := eq_true p1
          have q1e := eq_true q1
          clear hj1 k0 c2 p1 q1 hfin
          go_wp2
          repeat (go_quiet (first | (go_at_call 55; (with_reducible refine (HI1.out _).mono ?_); rintro e w' ⟨rfl, ⟨nd2, rfl⟩⟩; (try first | exact ⟨rfl, _, World.drewN_drewN _ _ _⟩ | exact ⟨rfl, _, Eq.trans (World.drewN_drewN _ _ _) (congrArg (World.drewN _) (Nat.add_assoc _ _ _))⟩)) | (go_at_call 55; (with_reducible refine (HI2.out _).mono ?_); rintro e w' ⟨rfl, ⟨nd2, rfl⟩⟩; (try first | exact ⟨rfl, _, World.drewN_drewN _ _ _⟩ | exact ⟨rfl, _, Eq.trans (World.drewN_drewN _ _ _) (congrArg (World.drewN _) (Nat.add_assoc _ _ _))⟩))); try go_wp2)
          go_ret
          exact ⟨by rw [← HF.out]; rfl, by repeat (first | exact Drawn0.refl _ | apply Drawn0.step)⟩
def shunt_Rank.f (k : Nat) (l0 : List Int) : Option (Int × Int) :=
  if isOrderB l0 = true then
    (if l0.length ≤ 30 then
      (shunt_block.f k l0).bind fun b => (if b = [] then (shunt_counts.f k (l0.length : Int)).bind fun all => (if all.length ≤ 100 then (rankF all (l0.length + 1) l0 0).bind fun r => some (r, 0) else none) else some (0, 6))
    else some (0, 2))
  else some (0, 2)
theorem shunt_Rank.mono : ∀ a0 k, LeO (shunt_Rank.f k a0) (shunt_Rank.f (k + 1) a0) := by
  intro a0 k
  unfold shunt_Rank.f
  repeat' first
    | exact LeO.refl _
    | refine LeO.ite ?_ ?_
    | refine LeO.bind (shunt_block.mono _ _) (fun _ => ?_)
    | refine LeO.bind (shunt_counts.mono _ _) (fun _ => ?_)

set_option maxHeartbeats 4000000 in
set_option maxRecDepth 100000 in
theorem shunt_Rank.calls (k : Nat) (A0 : Option Addr) (c0 : Nat) (l0 : List Int) (r1 r2 : Int) (w : World) (hr0 : Kd.C (Kd.int .i64) w A0 l0.length l0) (hc0 : l0.length ≤ c0) (h : shunt_Rank.f k l0 = some (r1, r2)) :
    Calls Try.prog 19 #[.slice A0 l0.length c0] w fun e w' => e = .returned (.tuple #[.int .i64 r1, .int .i64 r2]) ∧ Below w.heap.size w w' := by
  have HR0 := Aside0.mk hr0
  have HC0 := Aside0.mk hc0
  have hmax : (l0.length : Int) ≤ 9223372036854775807 := by have := hr0.2.1; omega
  clear hr0 hc0
  unfold shunt_Rank.f at h
  cases hord : isOrderB l0 with
  | false =>
    rw [hord, if_neg (by decide)] at h
    injection h with h
    injection h with e1 e2
    subst e1; subst e2
    have HO := Aside0.mk (shunt_isOrder.calls A0 c0 l0 false w HR0.out HC0.out (by unfold shunt_isOrder.f; rw [hord]))
    clear hord
    go_enter Try.func19, Try.ntmps19
    go_wp2_with (go_at_call 52; go_must ((with_reducible refine HO.out.mono ?_); rintro e w1 ⟨rfl, hb1⟩; have HB1 := Aside0.mk hb1; clear hb1))
    go_ret2
    exact ⟨rfl, HB1.out⟩
  | true =>
    rw [hord, if_pos rfl] at h
    have HO := Aside0.mk (shunt_isOrder.calls A0 c0 l0 true w HR0.out HC0.out (by unfold shunt_isOrder.f; rw [hord]))
    clear hord
    by_cases h30 : l0.length ≤ 30
    case neg =>
      rw [if_neg h30] at h
      injection h with h
      injection h with e1 e2
      subst e1; subst e2
      have c1 : decide (30 < l0.length) = true := decide_eq_true (by omega)
      have c2 : decide (30 < (l0.length : Int)) = true := decide_eq_true (by omega)
      clear h30
      go_enter Try.func19, Try.ntmps19
      go_wp2_with (go_at_call 52; go_must ((with_reducible refine HO.out.mono ?_); rintro e w1 ⟨rfl, hb1⟩; have HB1 := Aside0.mk hb1; clear hb1))
      go_ret2
      exact ⟨rfl, HB1.out⟩
    case pos =>
      rw [if_pos h30] at h
      have c1 : decide (30 < l0.length) = false := decide_eq_false (by omega)
      have c2 : decide (30 < (l0.length : Int)) = false := decide_eq_false (by omega)
      replace h := Option.bind_eq_some_iff.mp h
      obtain ⟨b, hb, h⟩ := h
      have HBL := Aside0.mk (fun (w1 : World) (h1 : Below w.heap.size w w1) => shunt_block.callsN k A0 c0 l0 b w1 (Kd.C_below HR0.out h1) HC0.out hb)
      have q22 : ∀ (w : World) (a : Option Addr) (n c n' c' : Nat), (binOp .neq 22 (.slice a n c) (.slice none n' c')).run Try.prog w = .ok (.bool (!a.isNone)) w := fun w a n c n' c' => run_neq_slice_nil_any w _ _ a n c n' c' Try.underlying22
      by_cases hbn : b = []
      case neg =>
        rw [if_neg hbn] at h
        injection h with h
        injection h with e1 e2
        subst e1; subst e2
        have hbl : 0 < b.length := List.length_pos_iff.2 hbn
        clear h30 hb hbn
        go_enter Try.func19, Try.ntmps19
        go_wp2_with (first | (go_at_call 52; go_must ((with_reducible refine HO.out.mono ?_); rintro e w1 ⟨rfl, hb1⟩; have HB1 := Aside0.mk hb1; clear hb1)) | (go_at_call 53; go_must ((with_reducible refine (HBL.out _ HB1.out).mono ?_); rintro e w2 ⟨vb, rfl, hR2, hB2, _⟩; obtain ⟨A2, c2', e2⟩ := Kd.R_slice hR2; subst e2; obtain ⟨g2, e3⟩ := R_addr hR2 hbl; subst e3; have HB2 := Aside0.mk hB2; clear hR2 hB2)))
        go_ret2
        exact ⟨rfl, below_step HB1.out HB2.out⟩
      case pos =>
        rw [if_pos hbn] at h
        subst hbn
        replace h := Option.bind_eq_some_iff.mp h
        obtain ⟨all, hall, h⟩ := h
        by_cases h100 : all.length ≤ 100
        case neg => rw [if_neg h100] at h; cases h
        rw [if_pos h100] at h
        replace h := Option.bind_eq_some_iff.mp h
        obtain ⟨r, hr, h⟩ := h
        injection h with h
        injection h with e1 e2
        subst e1; subst e2
        have HCN := Aside0.mk (fun (w1 : World) => shunt_counts.calls k (l0.length : Int) all w1 hall)
        have HRK := Aside0.mk hr
        have H100 := Aside0.mk h100
        have hmf : ∀ (fn : Fn) (first cap : Array Value) (w : World), (Instr.makeFunc fn first cap).run Try.prog w = .ok (.func fn first cap) w := fun _ _ _ _ => rfl
        clear h30 hb hall hr h100
        go_enter Try.func19, Try.ntmps19
        go_wp2_with (first | (go_at_call 52; go_must ((with_reducible refine HO.out.mono ?_); rintro e w1 ⟨rfl, hb1⟩; have HB1 := Aside0.mk hb1; clear hb1)) | (go_at_call 53; go_must ((with_reducible refine (HBL.out _ HB1.out).mono ?_); rintro e w2 ⟨vb, rfl, hR2, hB2, hnil⟩; have e2 := hnil (by simp); subst e2; have HB2 := Aside0.mk (below_step HB1.out hB2); clear hR2 hB2 hnil)) | (go_at_call 54; go_must ((with_reducible refine (HCN.out _).mono ?_); rintro e w3 ⟨va, rfl, hR3, hB3⟩; obtain ⟨A3, c3, e3⟩ := Kd.R_slice hR3; subst e3; have HB3 := Aside0.mk (below_step HB2.out hB3); have HR3 := Aside0.mk (Kd.R_reads' hR3).2.2; clear hR3 hB3)) | (go_at_call 55; go_must ((with_reducible refine (rank_fn.calls all A3 c3 w3.heap.size (w3.heap.size + 1) (l0.length + 1) A0 c0 l0 0 r ((w3.alloc (.cells #[.slice A3 all.length c3] 22)).alloc (.cells #[(.func (.func 55) #[] #[.pointer (some ⟨w3.heap.size, 0, none⟩), .pointer (some ⟨w3.heap.size + 1, 0, none⟩)])] 33)) ((blk_cell (blk_alloc (heap_alloc_new w3 _) _) 0).trans rfl) ((blk_cell (show ((w3.alloc (.cells #[.slice A3 all.length c3] 22)).alloc (.cells #[(.func (.func 55) #[] #[.pointer (some ⟨w3.heap.size, 0, none⟩), .pointer (some ⟨w3.heap.size + 1, 0, none⟩)])] 33)).heap[w3.heap.size + 1]? = some _ by simpa using heap_alloc_new (w3.alloc (.cells #[.slice A3 all.length c3] 22)) (.cells #[(.func (.func 55) #[] #[.pointer (some ⟨w3.heap.size, 0, none⟩), .pointer (some ⟨w3.heap.size + 1, 0, none⟩)])] 33)) 0).trans rfl) (Kd.C_alloc (Kd.C_alloc HR3.out _) _) H100.out (Kd.C_alloc (Kd.C_alloc (Kd.C_below HR0.out HB3.out) _) _) HC0.out HRK.out).mono ?_); rintro e w4 ⟨rfl, ⟨nd, rfl⟩⟩)))
        go_ret2
        exact ⟨rfl, pw_below_drewN (below_alloc (below_alloc HB3.out _) _) _⟩


end Go.Proofs.Ytjbjongahnocdaa.S

namespace Go.Proofs.Ytjbjongahnocdaa.S
open Go.Proofs.Ytjbjongahnocdaa.Lib
open Go.Proofs.Ytjbjongahnocdaa.Defs
open Go.Maps (Keyed)
open Go.RowKit Go.Proofs.YtjbjongahnocdaaW.PrintWords Go.Proofs.YtjbjongahnocdaaW.PrintLast Go.Proofs.YtjbjongahnocdaaW.PrintMore
attribute [local go_sem] max2_int min2_int max_two min_two max_three min_three max_four min_four   -- for this text's walks alone
set_option linter.unusedVariables false
set_option linter.unusedSimpArgs false

/-! ### shunt_least: function 62 -/
def shunt_least.l0 : Nat → Int → List (S82) → Int → Int → Option (Int)
  | 0, _, _, _, _ => none
  | k + 1, x3, x6, x7, x8 => if x8 < x7 then (if 0 ≤ x8 then (if x8 < (x6.length : Int) then (shunt_least.l0 k (mx x3 (wrap64 (((rd_T82 x6 x8).f0) + 1))) x6 x7 (wrap64 (x8 + 1))) else (none)) else (none)) else (some x3)
def shunt_least.f (k : Nat) (l0 : List (S82)) : Option (Int) := shunt_least.l0 k 1 l0 (l0.length : Int) 0
theorem shunt_least.mono_l : ∀ k, (∀ y0 y1 y2 y3, LeO (shunt_least.l0 k y0 y1 y2 y3) (shunt_least.l0 (k + 1) y0 y1 y2 y3))
  | 0 => fun _ _ _ _ r h => by simp [shunt_least.l0] at h
  | k + 1 => by
    have ih0 := shunt_least.mono_l k
    · intro y0 y1 y2 y3
      unfold shunt_least.l0
      repeat' first
      | (with_reducible exact ih0 _ _ _ _)
      | (with_reducible exact LeO.refl _)
      | (with_reducible exact LeO.none _)
      | (with_reducible refine LeO.ite ?_ ?_)
      | (with_reducible refine LeO.bind ?_ (fun _ => ?_))
      | exact ih0 _ _ _ _
      | exact LeO.none _
      | refine LeO.ite ?_ ?_
      | refine LeO.bind ?_ (fun _ => ?_)
theorem shunt_least.mono : ∀ a0 k, LeO (shunt_least.f k a0) (shunt_least.f (k + 1) a0) := by
  intro a0 k
  have ih0 := shunt_least.mono_l k
  unfold shunt_least.f
  repeat' first
      | (with_reducible exact ih0 _ _ _ _)
      | (with_reducible exact LeO.refl _)
      | (with_reducible exact LeO.none _)
      | (with_reducible refine LeO.ite ?_ ?_)
      | (with_reducible refine LeO.bind ?_ (fun _ => ?_))
      | exact ih0 _ _ _ _
      | exact LeO.none _
      | refine LeO.ite ?_ ?_
      | refine LeO.bind ?_ (fun _ => ?_)
set_option maxHeartbeats 8000000 in
set_option maxRecDepth 100000 in
theorem shunt_least.calls (k : Nat) (A0 : Option Addr) (c0 : Nat) (l0 : List (S82)) (r : Int) (w : World) (hr0 : Kd.C k82 w A0 l0.length l0) (hc0 : l0.length ≤ c0) (h : shunt_least.f k l0 = some r) :
    Calls Try.prog 62 #[.slice A0 l0.length c0] w fun e w' => e = .returned (.int .i64 r) ∧ Below w.heap.size w w' := by
  have hu82 := Try.underlying82
  have HR0 := Aside0.mk hr0
  have HC0 := Aside0.mk hc0
  clear hr0 hc0
  have HB := Aside0.mk (Below.refl w.heap.size w)
  have H : (shunt_least.l0 k 1 l0 (l0.length : Int) 0) = some r := h
  clear h
  have H' := Aside0.mk H
  clear H
  go_enter Try.func62, Try.ntmps62
  go_wp2
  go_loopg [3, 8] k (fun kq v3 v8 w' => ∃ (x3_1 : Int) (x8_1 : Int), v3 = .int .i64 x3_1 ∧ v8 = .int .i64 x8_1 ∧ Aside0 (shunt_least.l0 kq x3_1 l0 (l0.length : Int) x8_1 = some r) ∧ Aside0 (kq ≤ k) ∧ Aside0 (Below w.heap.size w w'))
  case atStart => exact ⟨(1), (0), (by first | rfl | (simp; done) | (simp [*]; done)), (by first | rfl | (simp; done) | (simp [*]; done)), H', ⟨Nat.le_refl _⟩, ⟨by repeat (first | (with_reducible first | exact HB.out | apply below_alloc | apply pw_below_drewN | apply below_drew1) | exact HB.out)⟩⟩
  case round =>
    clear H'
    obtain ⟨x3_1, x8_1, rfl, rfl, HA, HK1, HB⟩ := hrel
    cases gk with
    | zero => exact absurd HA.out (by simp [shunt_least.l0])
    | succ k1 =>
      have H := HA.out
      clear HA
      simp only [shunt_least.l0] at H
      by_cases c2 : x8_1 < (l0.length : Int)
      · rw [if_pos c2] at H
        have c2b0 : decide (x8_1 < (l0.length : Int)) = true := decide_eq_true c2
        clear c2
        by_cases c3 : 0 ≤ x8_1
        · rw [if_pos c3] at H
          have c3b0 : decide (0 ≤ x8_1) = true := decide_eq_true c3
          clear c3
          by_cases c4 : x8_1 < (l0.length : Int)
          · rw [if_pos c4] at H
            have c4b0 : decide (x8_1 < (l0.length : Int)) = true := decide_eq_true c4
            clear c4
            obtain ⟨ji5, hji5⟩ : ∃ j_ : Int, (mx x3_1 (wrap64 (((rd_T82 l0 x8_1).f0) + 1))) = j_ := ⟨_, rfl⟩
            replace H : (shunt_least.l0 k1 ji5 l0 (l0.length : Int) (wrap64 (x8_1 + 1))) = some r := by first | (rw [hji5] at H; exact H) | (simp only [hji5] at H ⊢; exact H)
            have hji5_ : (if x3_1 < (wrap64 (((rd_T82 l0 x8_1).f0) + 1)) then (wrap64 (((rd_T82 l0 x8_1).f0) + 1)) else x3_1) = ji5 := hji5
            have H' := Aside0.mk H
            clear H
            have p125 : 0 ≤ (x8_1 : Int) := of_decide_eq_true (by first | (with_reducible assumption) | assumption)
            have q125 : x8_1 < (l0.length : Int) := of_decide_eq_true (by first | (with_reducible assumption) | assumption)
            obtain ⟨ad125, e125, hx125_0, hx125_1⟩ := at_T82 HR0.out x8_1 p125 q125
            cases e125
            replace hx125_0 := (HB.out.cell (World.block_lt_of_cell? w _ hx125_0)).trans hx125_0
            replace hx125_1 := (HB.out.cell (World.block_lt_of_cell? w _ hx125_1)).trans hx125_1
            replace p125 := eq_true p125
            replace q125 := eq_true q125
            go_wp2_with (first | ((with_reducible refine gate_dst (N := 5) rfl ?_); refine box_event ?hg (N := 5) ?hd (cs := #[.int .i64 0, .int .i64 0]) (t := 82) ?hr ?_; (case hd => rfl); (case hg => rfl); (case hr => first | (go_simp; done) | (go_simp; rfl)); intro gb126 hg w6 hbox hb; have n0_ := Aside0.mk (below_step (by repeat (first | (with_reducible first | exact HB.out | apply below_alloc | apply pw_below_drewN | apply below_drew1) | exact HB.out)) hb); have n1_ := Aside0.mk (hbox); have n2_ := Aside0.mk ((by rw [hg]; exact (below_size (by repeat (first | (with_reducible first | exact HB.out | apply below_alloc | apply pw_below_drewN | apply below_drew1) | exact HB.out))) : w.heap.size ≤ gb126)); have n3_ := Aside0.mk ((by rw [hg]; exact (below_size (by repeat (first | (with_reducible first | exact HB.out | apply below_alloc | apply pw_below_drewN | apply below_drew1) | exact HB.out))) : w.heap.size ≤ gb126)); clear HB; have HB := n0_; have BK126 := n1_; have GW126 := n2_; have GE126 := n3_; clear n0_ n1_ n2_ n3_; clear hb hbox hg; have hcz7_0 : w6.cell? ⟨gb126, 0, none⟩ = some (.int .i64 0) := (blk_cell BK126.out 0).trans rfl; have hcz7_1 : w6.cell? ⟨gb126, 1, none⟩ = some (.int .i64 0) := (blk_cell BK126.out 1).trans rfl; have hfz7_0 := blk_frozen BK126.out 0; have hfz7_1 := blk_frozen BK126.out 1))
            go_roundg k1
            case measure => have := HK1.out; omega
            case rel => exact ⟨(ji5), (wrap64 (x8_1 + 1)), (by first | rfl | (simp; done) | (simp only [← hji5] <;> (first | rfl | simp)) | (simp [*]; done)), (by first | rfl | (simp; done) | (simp [*]; done)), H', ⟨by have := HK1.out; omega⟩, ⟨by repeat (first | (with_reducible first | exact HB.out | apply below_alloc | apply pw_below_drewN | apply below_drew1 | refine below_set ?_ GE126.out) | exact HB.out)⟩⟩
          · rw [if_neg c4] at H
            exact absurd H (by simp)
        · rw [if_neg c3] at H
          exact absurd H (by simp)
      · rw [if_neg c2] at H
        have c2b0 : decide (x8_1 < (l0.length : Int)) = false := decide_eq_false c2
        clear c2
        obtain rfl := Option.some.inj H
        go_wp2
        go_ret
        exact ⟨by first | rfl | (simp [errW_none, errW_some] <;> rfl) | (simp [*, errW_none, errW_some] <;> rfl), by repeat (first | (with_reducible first | exact HB.out | apply below_alloc | apply pw_below_drewN | apply below_drew1) | exact HB.out)⟩

end Go.Proofs.Ytjbjongahnocdaa.S

namespace Go.Proofs.Ytjbjongahnocdaa.S
open Go.Proofs.Ytjbjongahnocdaa.Lib
open Go.Proofs.Ytjbjongahnocdaa.Defs
open Go.Maps (Keyed)
open Go.RowKit Go.Proofs.YtjbjongahnocdaaW.PrintWords Go.Proofs.YtjbjongahnocdaaW.PrintLast Go.Proofs.YtjbjongahnocdaaW.PrintMore
attribute [local go_sem] max2_int min2_int max_two min_two max_three min_three max_four min_four   -- for this text's walks alone
set_option linter.unusedVariables false
set_option linter.unusedSimpArgs false

/-! ### shunt_Least: function 29 -/
def shunt_Least.f (k : Nat) (l0 : List Int) : Option (Int × Int) := (shunt_isOrder.f l0).bind fun t127 => (if t127 = true then ((shunt_places.f l0).bind fun t128 => ((shunt_least.f k t128).bind fun t131 => (some (t131, 0)))) else (some (0, 2)))
theorem shunt_Least.mono : ∀ a0 k, LeO (shunt_Least.f k a0) (shunt_Least.f (k + 1) a0) := by
  intro a0 k
  unfold shunt_Least.f
  repeat' first
      | (with_reducible exact shunt_least.mono _ _)
      | (with_reducible exact LeO.refl _)
      | (with_reducible exact LeO.none _)
      | (with_reducible refine LeO.ite ?_ ?_)
      | (with_reducible refine LeO.bind ?_ (fun _ => ?_))
      | exact shunt_least.mono _ _
      | exact LeO.none _
      | refine LeO.ite ?_ ?_
      | refine LeO.bind ?_ (fun _ => ?_)
set_option maxHeartbeats 8000000 in
set_option maxRecDepth 100000 in
theorem shunt_Least.calls (k : Nat) (A0 : Option Addr) (c0 : Nat) (l0 : List Int) (r1 : Int) (r2 : Int) (w : World) (hr0 : Kd.C (Kd.int .i64) w A0 l0.length l0) (hc0 : l0.length ≤ c0) (h : shunt_Least.f k l0 = some (r1, r2)) :
    Calls Try.prog 29 #[.slice A0 l0.length c0] w fun e w' => e = .returned (.tuple #[.int .i64 r1, .int .i64 r2]) ∧ Below w.heap.size w w' := by
  have HR0 := Aside0.mk hr0
  have HC0 := Aside0.mk hc0
  clear hr0 hc0
  have HB := Aside0.mk (Below.refl w.heap.size w)
  have H : ((shunt_isOrder.f l0).bind fun t127 => (if t127 = true then ((shunt_places.f l0).bind fun t128 => ((shunt_least.f k t128).bind fun t131 => (some (t131, 0)))) else (some (0, 2)))) = some (r1, r2) := h
  clear h
  replace H := Option.bind_eq_some_iff.mp H
  obtain ⟨t127, A20, H⟩ := H
  replace H : (if t127 = true then ((shunt_places.f l0).bind fun t128 => ((shunt_least.f k t128).bind fun t131 => (some (t131, 0)))) else (some (0, 2))) = some (r1, r2) := H
  have A2 := Aside0.mk A20
  clear A20
  by_cases c3 : t127 = true
  · subst c3
    have H1 : ((shunt_places.f l0).bind fun t128 => ((shunt_least.f k t128).bind fun t131 => (some (t131, 0)))) = some (r1, r2) := by rw [if_pos rfl] at H; exact H
    clear H
    have H := H1
    clear H1
    replace H := Option.bind_eq_some_iff.mp H
    obtain ⟨t128, A40, H⟩ := H
    replace H : ((shunt_least.f k t128).bind fun t131 => (some (t131, 0))) = some (r1, r2) := H
    have A4 := Aside0.mk A40
    clear A40
    replace H := Option.bind_eq_some_iff.mp H
    obtain ⟨t131, A50, H⟩ := H
    replace H : (some (t131, 0)) = some (r1, r2) := H
    have A5 := Aside0.mk A50
    clear A50
    simp only [Option.some.injEq, Prod.mk.injEq] at H
    obtain ⟨rfl, rfl⟩ := H
    go_enter Try.func29, Try.ntmps29
    go_wp2_with (first | ((with_reducible refine gate_callee (f := 52) rfl ?_); refine goesL_ (some 5) rfl rfl Try.func52 (by kernel_rfl) rfl #[.slice A0 l0.length c0] rfl (by (try simp only [List.map_toArray, List.map_cons, List.map_nil]); first | done | rfl | (simp only [List.length_drop, List.length_take]; rfl)) ?_; (with_reducible refine (shunt_isOrder.calls _ _ l0 true _ ?side1 ?side2 A2.out).mono ?_); (case side1 => repeat (first | exact HR0.out | (with_reducible refine Kd.C_alloc ?_ _) | (with_reducible refine Kd.C_drewN ?_ _) | (with_reducible refine Kd.C_drew ?_))); (case side2 => exact HC0.out); rintro e w6 ⟨rfl, hb⟩; refine ⟨_, rfl, ?_⟩; have n0_ := Aside0.mk (below_step (by repeat (first | (with_reducible first | exact HB.out | apply below_alloc | apply pw_below_drewN | apply below_drew1) | exact HB.out)) hb); clear HB; have HB := n0_; clear n0_; (try clear hb); (try clear hb2); (try clear hk); (try clear hi)) | ((with_reducible refine gate_callee (f := 63) rfl ?_); refine goesL_ (some 8) rfl rfl Try.func63 (by kernel_rfl) rfl #[.slice A0 l0.length c0] rfl (by (try simp only [List.map_toArray, List.map_cons, List.map_nil]); first | done | rfl | (simp only [List.length_drop, List.length_take]; rfl)) ?_; (with_reducible refine (shunt_places.calls _ _ l0 t128 _ ?side1 ?side2 A4.out).mono ?_); (case side1 => repeat (first | exact (Kd.C_below HR0.out HB.out) | (with_reducible refine Kd.C_alloc ?_ _) | (with_reducible refine Kd.C_drewN ?_ _) | (with_reducible refine Kd.C_drew ?_))); (case side2 => exact HC0.out); rintro e w7 ⟨v129, rfl, ho0, hb⟩; refine ⟨_, rfl, ?_⟩; have n0_ := Aside0.mk (Kd.R_lower ho0 (below_size (by repeat (first | (with_reducible first | exact HB.out | apply below_alloc | apply pw_below_drewN | apply below_drew1) | exact HB.out)))); have n1_ := Aside0.mk (below_step (by repeat (first | (with_reducible first | exact HB.out | apply below_alloc | apply pw_below_drewN | apply below_drew1) | exact HB.out)) hb); clear HB; have HO130 := n0_; have HB := n1_; clear n0_ n1_; (try clear hb); (try clear hb2); (try clear hk); (try clear hi); (try clear ho0); obtain ⟨Ao8, co8, eo8⟩ := Kd.R_slice HO130.out; subst eo8) | ((with_reducible refine gate_callee (f := 62) rfl ?_); refine goesL_ (some 9) rfl rfl Try.func62 (by kernel_rfl) rfl #[.slice Ao8 t128.length co8] rfl (by (try simp only [List.map_toArray, List.map_cons, List.map_nil]); first | done | rfl | (simp only [List.length_drop, List.length_take]; rfl)) ?_; (with_reducible refine (shunt_least.calls k _ _ t128 t131 _ ?side1 ?side2 A5.out).mono ?_); (case side1 => repeat (first | exact (Kd.R_reads' HO130.out).2.2 | (with_reducible refine Kd.C_alloc ?_ _) | (with_reducible refine Kd.C_drewN ?_ _) | (with_reducible refine Kd.C_drew ?_))); (case side2 => exact (Kd.R_reads' HO130.out).2.1); rintro e w9 ⟨rfl, hb⟩; refine ⟨_, rfl, ?_⟩; have n0_ := Aside0.mk (Kd.R_below (by (with_reducible repeat (first | apply Kd.R_alloc | apply Kd.R_drewN | apply Kd.R_drew)); exact HO130.out) hb); have n1_ := Aside0.mk (below_step (by repeat (first | (with_reducible first | exact HB.out | apply below_alloc | apply pw_below_drewN | apply below_drew1) | exact HB.out)) hb); clear HO130; clear HB; have HO130 := n0_; have HB := n1_; clear n0_ n1_; (try clear hb); (try clear hb2); (try clear hk); (try clear hi)))
    go_ret2
    exact ⟨by first | rfl | (simp [errW_none, errW_some] <;> rfl) | (simp [*, errW_none, errW_some] <;> rfl), by repeat (first | (with_reducible first | exact HB.out | apply below_alloc | apply pw_below_drewN | apply below_drew1) | exact HB.out)⟩
  · replace c3 := Bool.eq_false_iff.mpr c3
    subst c3
    have H1 : (some (0, 2)) = some (r1, r2) := by rw [if_neg (show ¬ (false = true) by decide)] at H; exact H
    clear H
    have H := H1
    clear H1
    simp only [Option.some.injEq, Prod.mk.injEq] at H
    obtain ⟨rfl, rfl⟩ := H
    go_enter Try.func29, Try.ntmps29
    go_wp2_with (first | ((with_reducible refine gate_callee (f := 52) rfl ?_); refine goesL_ (some 5) rfl rfl Try.func52 (by kernel_rfl) rfl #[.slice A0 l0.length c0] rfl (by (try simp only [List.map_toArray, List.map_cons, List.map_nil]); first | done | rfl | (simp only [List.length_drop, List.length_take]; rfl)) ?_; (with_reducible refine (shunt_isOrder.calls _ _ l0 false _ ?side1 ?side2 A2.out).mono ?_); (case side1 => repeat (first | exact HR0.out | (with_reducible refine Kd.C_alloc ?_ _) | (with_reducible refine Kd.C_drewN ?_ _) | (with_reducible refine Kd.C_drew ?_))); (case side2 => exact HC0.out); rintro e w10 ⟨rfl, hb⟩; refine ⟨_, rfl, ?_⟩; have n0_ := Aside0.mk (below_step (by repeat (first | (with_reducible first | exact HB.out | apply below_alloc | apply pw_below_drewN | apply below_drew1) | exact HB.out)) hb); clear HB; have HB := n0_; clear n0_; (try clear hb); (try clear hb2); (try clear hk); (try clear hi)))
    go_ret2
    exact ⟨by first | rfl | (simp [errW_none, errW_some] <;> rfl) | (simp [*, errW_none, errW_some] <;> rfl), by repeat (first | (with_reducible first | exact HB.out | apply below_alloc | apply pw_below_drewN | apply below_drew1) | exact HB.out)⟩

end Go.Proofs.Ytjbjongahnocdaa.S
