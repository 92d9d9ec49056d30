-- Written by wip/bundle2.py: texts of this claim, one behind the other.
import Derived.Test.YtnfmeafiaipplaaBLoopsLattice0
import Derived.BigRegion
import Derived.StillTailTactics
import Derived.Deep.RegionHeldLaw
set_option linter.unusedVariables false
set_option linter.unusedSimpArgs false

namespace Go.Proofs.Ytnfmeafiaipplaa.S
open Go.Proofs.Ytnfmeafiaipplaa.Lib
open Go.Maps (Keyed)
open Go.RowKit Go.Proofs.YtnfmeafiaipplaaW.PrintWords Go.Proofs.YtnfmeafiaipplaaW.PrintLast Go.Proofs.YtnfmeafiaipplaaW.PrintMore
attribute [local go_sem] max2_int min2_int max_two min_two max_three min_three max_four min_four
set_option linter.unusedVariables false
set_option linter.unusedSimpArgs false
def needsF (x y : S39) : Option (Option (List Int×List Int)) :=
 if x.f0 = 0∨y.f0 = 1 then some none
 else if x.f0≠y.f0 then none
 else if x.f0 = 4 then some (some ([x.f1,y.f1],[x.f2,y.f2]))
 else if x.f0 = 5 then some (some ([y.f1,x.f1],[x.f2,y.f2]))
 else some none
def NeedsPost (nd : Option (Option (List Int×List Int))) (w : World) (e : Ending) (w' : World) : Prop :=
 Below w.heap.size w w'∧∃ v,e = .returned (.tuple #[v,.bool nd.isSome])∧NeedsIs (nd.getD none) w.heap.size w' v
theorem heap_new2 (w : World) (o : Obj) (n : Nat) (hn : n = w.heap.size) :(w.alloc o).heap[n]? = some o:=by subst hn;exact heap_alloc_new w o
theorem two_f (pa pb : List Int) : ∀ v,v≠.int .u8 97→encU (fun c=>if c = 97 then some (keyL pa) else none) v = encU (fun _=>none) v:=by
 intro v hv
 unfold encU
 split
 ·rename_i x
  exact if_neg (fun e=>hv (by rw [e]))
 rfl
theorem two_g (pa pb : List Int) : ∀ v,v≠.int .u8 98→encU (two8 pa pb) v = encU (fun c=>if c = 97 then some (keyL pa) else none) v:=by
 intro v hv
 unfold encU two8
 split
 ·rename_i x
  have hx : x≠98:=fun e=>hv (by rw [e])
  by_cases h : x = 97 <;> simp [h,hx]
 rfl
/-- A new map with what a pair needs. -/
theorem two_stores (wc : World) (pa pb : List Int) : ∃ w1 w2,(Instr.mapUpdate 77 (.map (some wc.heap.size)) (.int .u8 97) (keyL pa)).run Try.prog (wc.alloc (.map #[] 0)) = .ok () w1 ∧(Instr.mapUpdate 77 (.map (some wc.heap.size)) (.int .u8 98) (keyL pb)).run Try.prog w1 = .ok () w2∧MapAt w2 Try.prog 5 wc.heap.size 2 (encU (two8 pa pb)) ∧(wc.alloc (.map #[] 0)).grownBy w1 (some wc.heap.size)∧Below wc.heap.size wc w2:=by
 have h0 : MapAt (wc.alloc (.map #[] 0)) Try.prog 5 wc.heap.size 0 (encU (fun _=>none)):=(MapAt.made wc Try.prog 5).congr (fun kv kl _=>by unfold encU;split <;> rfl)
 obtain ⟨w1,r1,h1,g1⟩:=h0.store law5 Try.underlying77 (by unfold maxLen;omega) (key5 97 (by omega) (by omega)) (val:=keyL pa) (f':=encU (fun c=>if c = 97 then some (keyL pa) else none)) rfl (two_f pa pb)
 have h1' : MapAt w1 Try.prog 5 wc.heap.size 1 (encU (fun c=>if c = 97 then some (keyL pa) else none)):=h1
 obtain ⟨w2,r2,h2,g2⟩:=h1'.store law5 Try.underlying77 (by unfold maxLen;omega) (key5 98 (by omega) (by omega)) (val:=keyL pb) (f':=encU (two8 pa pb)) rfl (two_g pa pb)
 have hb1 : Below wc.heap.size wc w1:=Below.grown (bwA (Below.refl _ _) _) g1 (by simp) (fun k hk=>by injection hk with hk;omega)
 exact⟨w1,w2,r1,r2,h2,g1,Below.grown hb1 g2 hb1.size (fun k hk=>by injection hk with hk;omega)⟩
set_option maxHeartbeats 2000000 in
set_option maxRecDepth 100000 in
theorem needs_fn.calls (A0 : Option Addr) (c0 : Nat) (l0 : List S39) (i j : Int) (w : World) (hr0 : Kd.C k39 w A0 l0.length l0) (hi : 0 ≤ i ∧ i < l0.length) (hj : 0 ≤ j ∧ j < l0.length) :
  Calls Try.prog 51 #[.slice A0 l0.length c0,.agg #[.int .i64 i,.int .i64 j]] w (NeedsPost (needsF (rd_T39 l0 i) (rd_T39 l0 j)) w):=by
 obtain ⟨X,hX⟩ : ∃ X,X = rd_T39 l0 i:=⟨_,rfl⟩
 obtain ⟨Y,hY⟩ : ∃ Y,Y = rd_T39 l0 j:=⟨_,rfl⟩
 obtain ⟨adt,eat,hx0,hx1,hx2⟩:=at_T39 hr0 i hi.1 hi.2
 obtain ⟨adt2,eat2,hy0,hy1,hy2⟩:=at_T39 hr0 j hj.1 hj.2
 subst eat
 obtain rfl : adt = adt2:=by injection eat2
 rw [← hX] at hx0 hx1 hx2 ⊢
 rw [← hY] at hy0 hy1 hy2 ⊢
 have r0:=eq_true hi.1
 have r1:=eq_true hi.2
 have r2:=eq_true hj.1
 have r3:=eq_true hj.2
 obtain ⟨W,hW⟩ : ∃ W,W = w.alloc (.cells #[.int .i64 i,.int .i64 j] 23):=⟨_,rfl⟩
 have hBW : Below w.heap.size w W:=by rw [hW];exact bwA (Below.refl _ _) _
 have hgb : W.heap[w.heap.size]? = some (.cells #[.int .i64 i,.int .i64 j] 23 (0,0)):=by rw [hW];exact heap_alloc_new w _
 have hsz : W.heap.size = w.heap.size + 1:=by rw [hW];simp
 have lt0 : ∀ {a : Addr} {v : Value},w.cell? a = some v→a.block < W.heap.size:=fun h=>Nat.lt_of_lt_of_le (World.block_lt_of_cell? w _ h) hBW.size
 have HKEEP := Aside0.mk (fun (W' : World) (hB : Below W.heap.size W W') => (show W'.cell? (adt.add (i.toNat * 3)) = some (.int .i64 X.f0) ∧ W'.cell? ⟨(adt.add (i.toNat * 3)).block, (adt.add (i.toNat * 3)).off + 1, none⟩ = some (.int .i64 X.f1) ∧ W'.cell? ⟨(adt.add (i.toNat * 3)).block, (adt.add (i.toNat * 3)).off + 2, none⟩ = some (.int .i64 X.f2) ∧ W'.cell? (adt.add (j.toNat * 3)) = some (.int .i64 Y.f0) ∧ W'.cell? ⟨(adt.add (j.toNat * 3)).block, (adt.add (j.toNat * 3)).off + 1, none⟩ = some (.int .i64 Y.f1) ∧ W'.cell? ⟨(adt.add (j.toNat * 3)).block, (adt.add (j.toNat * 3)).off + 2, none⟩ = some (.int .i64 Y.f2) ∧ W'.cell? ⟨w.heap.size, 0, none⟩ = some (.int .i64 i) ∧ W'.cell? ⟨w.heap.size, 1, none⟩ = some (.int .i64 j) from
  ⟨(hB.cell (lt0 hx0)).trans ((hBW.cell (World.block_lt_of_cell? w _ hx0)).trans hx0),(hB.cell (lt0 hx1)).trans ((hBW.cell (World.block_lt_of_cell? w _ hx1)).trans hx1),(hB.cell (lt0 hx2)).trans ((hBW.cell (World.block_lt_of_cell? w _ hx2)).trans hx2),(hB.cell (lt0 hy0)).trans ((hBW.cell (World.block_lt_of_cell? w _ hy0)).trans hy0),(hB.cell (lt0 hy1)).trans ((hBW.cell (World.block_lt_of_cell? w _ hy1)).trans hy1),(hB.cell (lt0 hy2)).trans ((hBW.cell (World.block_lt_of_cell? w _ hy2)).trans hy2),(bkC (bkB hgb hB) 0).trans rfl,(bkC (bkB hgb hB) 1).trans rfl⟩))
 have HB:=Aside0.mk hBW
 have HSZ:=Aside0.mk hsz
 have hmm:=@run_makeMap Try.prog
 clear hX hY hr0 hi hj hx0 hx1 hx2 hy0 hy1 hy2 hBW eat2 hgb hsz lt0
 subst hW
 obtain ⟨nd,hnd⟩ : ∃ nd,nd = needsF X Y:=⟨_,rfl⟩
 rw [← hnd]
 have HND:=Aside0.mk hnd
 clear hnd
 go_enter Try.func51,Try.ntmps51
 go_upto_region 1 with (fail)
 go_cut [6,7] (fun v6 v7 wc=>∃ g6 g7 : Nat,v6 = .pointer (some ⟨g6,0,none⟩)∧v7 = .pointer (some ⟨g7,0,none⟩)∧Aside0 (wc.heap[g6]? = some (.cells #[.int .i64 X.f0,.int .i64 X.f1,.int .i64 X.f2] 39 (0,0)))∧Aside0 (wc.heap[g7]? = some (.cells #[.int .i64 Y.f0,.int .i64 Y.f1,.int .i64 Y.f2] 39 (0,0)))∧Aside0 (Below w.heap.size w wc))
 case first =>
  go_wp2
  go_region_held (fun W'=>W'.cell? (adt.add (i.toNat * 3)) = some (.int .i64 X.f0)∧W'.cell? ⟨(adt.add (i.toNat * 3)).block,(adt.add (i.toNat * 3)).off + 1,none⟩ = some (.int .i64 X.f1)∧W'.cell? ⟨(adt.add (i.toNat * 3)).block,(adt.add (i.toNat * 3)).off + 2,none⟩ = some (.int .i64 X.f2)∧W'.cell? (adt.add (j.toNat * 3)) = some (.int .i64 Y.f0)∧W'.cell? ⟨(adt.add (j.toNat * 3)).block,(adt.add (j.toNat * 3)).off + 1,none⟩ = some (.int .i64 Y.f1)∧W'.cell? ⟨(adt.add (j.toNat * 3)).block,(adt.add (j.toNat * 3)).off + 2,none⟩ = some (.int .i64 Y.f2)∧W'.cell? ⟨w.heap.size,0,none⟩ = some (.int .i64 i)∧W'.cell? ⟨w.heap.size,1,none⟩ = some (.int .i64 j)) ((refine HKEEP.out _ ?_;repeat(first | exact Below.refl _ _ | apply bwA | apply bw1 | apply bwN |(refine Below.setCell ?_ (by simp <;> omega) _)))) (fail)
  all_goals (
   go_wp2
   go_meet
   case rel=>exact⟨_,_,rfl,rfl,⟨by first | exact bkD (heap_new2 _ _ _ (by simp)) | exact bkD (bkB (heap_new2 _ _ _ (by simp)) (bwA (Below.refl _ _) _))⟩,⟨by first | exact bkD (heap_new2 _ _ _ (by simp)) | exact bkD (bkB (heap_new2 _ _ _ (by simp)) (bwA (Below.refl _ _) _))⟩,⟨bw1 (bwA (bwA HB.out _) _)⟩⟩)
 case rest =>
  clear HKEEP
  obtain ⟨g6,g7,rfl,rfl,H6,H7,HBC⟩:=hcut
  have c60 : wc.cell? ⟨g6,0,none⟩ = some (.int .i64 X.f0):=(bkC H6.out 0).trans rfl
  have c61 : wc.cell? ⟨g6,1,none⟩ = some (.int .i64 X.f1):=(bkC H6.out 1).trans rfl
  have c62 : wc.cell? ⟨g6,2,none⟩ = some (.int .i64 X.f2):=(bkC H6.out 2).trans rfl
  have c70 : wc.cell? ⟨g7,0,none⟩ = some (.int .i64 Y.f0):=(bkC H7.out 0).trans rfl
  have c71 : wc.cell? ⟨g7,1,none⟩ = some (.int .i64 Y.f1):=(bkC H7.out 1).trans rfl
  have c72 : wc.cell? ⟨g7,2,none⟩ = some (.int .i64 Y.f2):=(bkC H7.out 2).trans rfl
  by_cases k1 : X.f0 = 0∨Y.f0 = 1
  ·have hn : needsF X Y = some none := if_pos k1
   obtain rfl:=HND.out.trans hn
   clear HND
   have HF:=Aside0.mk (fun(w' : World) (hw : Drawn0 wc w')=>show NeedsPost (some none) w (.returned (.tuple #[.map none,.bool true])) w' from(by obtain ⟨n,rfl⟩:=hw;exact⟨bwN HBC.out n,_,rfl,rfl⟩))
   by_cases k2 : X.f0 = 0
   ·have k2b : (X.f0 == 0) = true := beq_iff_eq.mpr k2
    clear k1 k2 hn
    go_wp2
    go_ret2
    exact HF.out _ (by repeat(first | exact Drawn0.refl _ | apply Drawn0.step))
   have k2b :(X.f0 == 0) = false:=beq_eq_false_iff_ne.mpr k2
   have k3b :(Y.f0 == 1) = true:=beq_iff_eq.mpr (k1.resolve_left k2)
   clear k1 k2 hn
   go_wp2
   go_ret2
   exact HF.out _ (by repeat(first | exact Drawn0.refl _ | apply Drawn0.step))
  have k2 : ¬ X.f0 = 0:=fun h=>k1 (.inl h)
  have k3 : ¬ Y.f0 = 1:=fun h=>k1 (.inr h)
  have k2b :(X.f0 == 0) = false:=beq_eq_false_iff_ne.mpr k2
  have k3b :(Y.f0 == 1) = false:=beq_eq_false_iff_ne.mpr k3
  by_cases k4 : X.f0 = Y.f0
  case neg =>
   have hn : needsF X Y = none:=by unfold needsF;rw [if_neg k1,if_pos k4]
   obtain rfl:=HND.out.trans hn
   clear HND
   have HF:=Aside0.mk (fun(w' : World) (hw : Drawn0 wc w')=>show NeedsPost none w (.returned (.tuple #[.map none,.bool false])) w' from(by obtain ⟨n,rfl⟩:=hw;exact⟨bwN HBC.out n,_,rfl,rfl⟩))
   have k4b :(X.f0 == Y.f0) = false:=beq_eq_false_iff_ne.mpr k4
   have k4c :(X.f0 != Y.f0) = true:=bne_iff_ne.mpr k4
   clear k1 k2 k3 k4 hn
   go_wp2
   go_ret2
   exact HF.out _ (by repeat(first | exact Drawn0.refl _ | apply Drawn0.step))
  have k4b :(X.f0 == Y.f0) = true:=beq_iff_eq.mpr k4
  have k4c :(X.f0 != Y.f0) = false:=bne_eq_false_iff_eq.mpr k4
  by_cases k5 : X.f0 = 4
  ·have hn : needsF X Y = some (some ([X.f1, Y.f1], [X.f2, Y.f2])) := by unfold needsF; rw [if_neg k1, if_neg (not_not_intro k4), if_pos k5]
   obtain rfl:=HND.out.trans hn
   clear HND
   have k5b :(X.f0 == 4) = true:=beq_iff_eq.mpr k5
   obtain ⟨w1,w2,hs1,hs2,hm2,hg1,hB2⟩:=two_stores wc [X.f1,Y.f1] [X.f2,Y.f2]
   have hs1' :(Instr.mapUpdate 77 (.map (some wc.heap.size)) (.int .u8 97) (.agg #[.int .i64 X.f1,.int .i64 Y.f1])).run Try.prog (wc.alloc (.map #[] 0)) = .ok () w1:=hs1
   have hs2' :(Instr.mapUpdate 77 (.map (some wc.heap.size)) (.int .u8 98) (.agg #[.int .i64 X.f2,.int .i64 Y.f2])).run Try.prog w1 = .ok () w2:=hs2
   have b6:=blk_grown (bkB H6.out (bwA (Below.refl _ _) (.map #[] 0))) hg1 (by have:=blk_lt H6.out;simp;omega)
   have b7:=blk_grown (bkB H7.out (bwA (Below.refl _ _) (.map #[] 0))) hg1 (by have:=blk_lt H7.out;simp;omega)
   have d61:=(bkC (bkB H6.out (bwA (Below.refl _ _) (.map #[] 0))) 1).trans rfl
   have d71:=(bkC (bkB H7.out (bwA (Below.refl _ _) (.map #[] 0))) 1).trans rfl
   have e62 : w1.cell? ⟨g6,2,none⟩ = some (.int .i64 X.f2):=(bkC b6 2).trans rfl
   have e72 : w1.cell? ⟨g7,2,none⟩ = some (.int .i64 Y.f2):=(bkC b7 2).trans rfl
   have HF:=Aside0.mk (fun(w' : World) (hw : Drawn0 w2 w')=>show NeedsPost (some (some ([X.f1,Y.f1],[X.f2,Y.f2]))) w (.returned (.tuple #[.map (some wc.heap.size),.bool true])) w' from(by
    obtain ⟨n,rfl⟩:=hw
    exact⟨bwN (below_then HBC.out HBC.out.size hB2) n,_,rfl,_,rfl,HBC.out.size,hm2.drewN n⟩))
   clear k1 k2 k3 k4 k5 hn hs1 hs2 hm2 hg1 hB2 b6 b7
   go_wp2
   go_ret2
   exact HF.out _ (by repeat(first | exact Drawn0.refl _ | apply Drawn0.step))
  have k5b :(X.f0 == 4) = false:=beq_eq_false_iff_ne.mpr k5
  by_cases k6 : X.f0 = 5
  rotate_left
  ·have hn : needsF X Y = some none := by unfold needsF; rw [if_neg k1, if_neg (not_not_intro k4), if_neg k5, if_neg k6]
   obtain rfl:=HND.out.trans hn
   clear HND
   have k6b :(X.f0 == 5) = false:=beq_eq_false_iff_ne.mpr k6
   have HF:=Aside0.mk (fun(w' : World) (hw : Drawn0 wc w')=>show NeedsPost (some none) w (.returned (.tuple #[.map none,.bool true])) w' from(by obtain ⟨n,rfl⟩:=hw;exact⟨bwN HBC.out n,_,rfl,rfl⟩))
   clear k1 k2 k3 k4 k5 k6 hn
   go_wp2
   go_ret2
   exact HF.out _ (by repeat(first | exact Drawn0.refl _ | apply Drawn0.step))
  have hn : needsF X Y = some (some ([Y.f1,X.f1],[X.f2,Y.f2])):=by unfold needsF;rw [if_neg k1,if_neg (not_not_intro k4),if_neg k5,if_pos k6]
  obtain rfl:=HND.out.trans hn
  clear HND
  have k6b :(X.f0 == 5) = true:=beq_iff_eq.mpr k6
  obtain ⟨w1,w2,hs1,hs2,hm2,hg1,hB2⟩:=two_stores wc [Y.f1,X.f1] [X.f2,Y.f2]
  have hs1' :(Instr.mapUpdate 77 (.map (some wc.heap.size)) (.int .u8 97) (.agg #[.int .i64 Y.f1,.int .i64 X.f1])).run Try.prog (wc.alloc (.map #[] 0)) = .ok () w1:=hs1
  have hs2' :(Instr.mapUpdate 77 (.map (some wc.heap.size)) (.int .u8 98) (.agg #[.int .i64 X.f2,.int .i64 Y.f2])).run Try.prog w1 = .ok () w2:=hs2
  have b6:=blk_grown (bkB H6.out (bwA (Below.refl _ _) (.map #[] 0))) hg1 (by have:=blk_lt H6.out;simp;omega)
  have b7:=blk_grown (bkB H7.out (bwA (Below.refl _ _) (.map #[] 0))) hg1 (by have:=blk_lt H7.out;simp;omega)
  have d61:=(bkC (bkB H6.out (bwA (Below.refl _ _) (.map #[] 0))) 1).trans rfl
  have d71:=(bkC (bkB H7.out (bwA (Below.refl _ _) (.map #[] 0))) 1).trans rfl
  have e62 : w1.cell? ⟨g6,2,none⟩ = some (.int .i64 X.f2):=(bkC b6 2).trans rfl
  have e72 : w1.cell? ⟨g7,2,none⟩ = some (.int .i64 Y.f2):=(bkC b7 2).trans rfl
  have HF:=Aside0.mk (fun(w' : World) (hw : Drawn0 w2 w')=>show NeedsPost (some (some ([Y.f1,X.f1],[X.f2,Y.f2]))) w (.returned (.tuple #[.map (some wc.heap.size),.bool true])) w' from(by
   obtain ⟨n,rfl⟩:=hw
   exact⟨bwN (below_then HBC.out HBC.out.size hB2) n,_,rfl,_,rfl,HBC.out.size,hm2.drewN n⟩))
  clear k1 k2 k3 k4 k5 k6 hn hs1 hs2 hm2 hg1 hB2 b6 b7
  go_wp2
  go_ret2
  exact HF.out _ (by repeat(first | exact Drawn0.refl _ | apply Drawn0.step))
end Go.Proofs.Ytnfmeafiaipplaa.S

namespace Go.Proofs.Ytnfmeafiaipplaa.S
open Go.Proofs.Ytnfmeafiaipplaa.Lib
open Go.Maps (Keyed)
open Go.RowKit Go.Proofs.YtnfmeafiaipplaaW.PrintWords Go.Proofs.YtnfmeafiaipplaaW.PrintLast Go.Proofs.YtnfmeafiaipplaaW.PrintMore
set_option linter.unusedVariables false

def l23 (x : S23) : List Int:=[x.f0,x.f1]
def s23 (q : List Int) : S23:=⟨q.getD 0 0,q.getD 1 0⟩
theorem z23_run (w : World) :(zeroValue 23).run Try.prog w = .ok (.agg #[.int .i64 0,.int .i64 0]) w:=by kernel_rfl
theorem zb_run (w : World) :(zeroValue 4).run Try.prog w = .ok (.bool false) w:=by kernel_rfl
theorem zu_run (w : World) :(zeroValue 5).run Try.prog w = .ok (.int .u8 0) w:=by kernel_rfl
/-- '[]byte("ab")': a conversion of bytes marks them, and no more. -/
theorem conv_ab (W : World) (g : Nat) (h : W.heap[g]? = some (.cells #[.int .u8 97, .int .u8 98] 5 (0, 0))) :
  ∃ W',(convert 102 102 (.slice (some ⟨g,0,none⟩) 2 2)).run Try.prog W = .ok (.slice (some ⟨g,0,none⟩) 2 2) W'∧Kept W W' (fun k=>k = g)∧W'.heap.size = W.heap.size∧W'.cell? ⟨g,0,none⟩ = some (.int .u8 97)∧W'.cell? ⟨g,1,none⟩ = some (.int .u8 98)∧W'.heap[g]? = some (.cells #[.int .u8 97,.int .u8 98] 5 (2,3)) ∧(∀ (B : Nat) (w : World),Below B w W→B≤g→Below B w W'):=by
 refine⟨W.freeze ⟨g,2,none⟩ 1,?_,⟨?_,?_⟩,?_,?_,?_,?_,?_⟩
 ·have hsh : W.shape? g = some (5, 2) := by simp [World.shape?, h]
  simp [convert,run_underlying Try.underlying102,run_underlying Try.underlying5,markStringish,hsh,Result.andThen]
 ·simp [World.freeze]
 ·intro i hi hne
  simp [World.freeze,Array.getElem?_modify,Ne.symm hne]
 ·simp [World.freeze]
 ·simp [World.freeze,World.cell?,Array.getElem?_modify,h]
 ·simp [World.freeze,World.cell?,Array.getElem?_modify,h]
 ·simp [World.freeze,Array.getElem?_modify,h]
 intro B w hB hg
 refine hB.trans ⟨rfl,rfl,rfl,by simp [World.freeze],fun k hk=>?_⟩
 have : g≠k:=by omega
 simp [World.freeze,Array.getElem?_modify,this]
/-- What stands under a letter. -/
theorem needs_lookOk {m : Option (List Int × List Int)} {base : Nat} {W : World} {v : Value} (h : NeedsIs m base W v) {c : Int} (hc : c = 97 ∨ c = 98) :
  (Instr.lookup 77 v (.int .u8 c) true).run Try.prog W = .ok (.tuple #[(needGet m c).elim (.agg #[.int .i64 0,.int .i64 0]) keyL,.bool (needGet m c).isSome]) W:=by
 have hk:=key5 c (by omega) (by omega)
 cases m with
 | none =>
  have h' : v = .map none:=h
  subst h'
  have:=Maps.look_nil (w:=W) true law5 Try.underlying77 (z23_run W) hk
  simpa [needGet] using this
 | some p =>
  obtain ⟨pa,pb⟩:=p
  obtain ⟨b,rfl,hb,hm⟩:=h
  have:=hm.lookOk law5 Try.underlying77 (z23_run W) hk
  rw [this]
  rcases hc with rfl | rfl <;> simp [encU,two8,needGet]
theorem needs_look {m : Option (List Int × List Int)} {base : Nat} {W : World} {v : Value} (h : NeedsIs m base W v) {c : Int} (hc : 0 ≤ c ∧ c ≤ 255) :
  (Instr.lookup 77 v (.int .u8 c) false).run Try.prog W = .ok ((needGet m c).elim (.agg #[.int .i64 0,.int .i64 0]) keyL) W:=by
 have hk:=key5 c hc.1 hc.2
 cases m with
 | none =>
  have h' : v = .map none:=h
  subst h'
  have:=Maps.look_nil (w:=W) false law5 Try.underlying77 (z23_run W) hk
  simpa [needGet] using this
 | some p =>
  obtain ⟨pa,pb⟩:=p
  obtain ⟨b,rfl,hb,hm⟩:=h
  have:=hm.look law5 Try.underlying77 (z23_run W) hk
  rw [this]
  by_cases h1 : c = 97
  ·simp [encU,two8,needGet,h1]
  by_cases h2 : c = 98 <;> simp [encU,two8,needGet,h1,h2]
theorem NeedsIs.kept {m : Option (List Int×List Int)} {base : Nat} {W W' : World} {v : Value} (h : NeedsIs m base W v) {S : Nat→Prop} (hk : Kept W W' S) (hS : ∀ k,S k→∀ b,v = .map (some b)→k≠b) : NeedsIs m base W' v:=by
 cases m with
 | none=>exact h
 | some p =>
  obtain ⟨b,rfl,hb,hm⟩:=h
  exact⟨b,rfl,hb,hm.block (hk.2 b hm.lt (fun hs=>hS b hs b rfl rfl))⟩
def inSet (ds : List (List Int)) : List Int→Option Value:=fun q=>if q ∈ ds then some (.bool true) else none
theorem inSet_new {ds : List (List Int)} {q : List Int} : encL (inSet (ds ++ [q])) (keyL q) = some (.bool true):=by
 rw [encL_key]
 simp [inSet]
theorem inSet_far {ds : List (List Int)} {q : List Int} : ∀ v,v≠keyL q→encL (inSet (ds ++ [q])) v = encL (inSet ds) v:=by
 intro v hv
 unfold encL
 cases hd : decL v with
 | none=>rfl
 | some y =>
  have : y≠q:=fun e=>hv (by rw [decL_eq hd,e])
  simp [inSet,this]
theorem inSet_look {ds : List (List Int)} {b m : Nat} {W : World} (h : MapAt W Try.prog 23 b m (encL (inSet ds))) {a c : Int} (ha : I64 a) (hc : I64 c) :
  (Instr.lookup 104 (.map (some b)) (.agg #[.int .i64 a,.int .i64 c]) false).run Try.prog W = .ok (.bool (decide ([a,c] ∈ ds))) W:=by
 have:=h.look law23 Try.underlying104 (zb_run W) (key23 ha hc)
 rw [this]
 have e : encL (inSet ds) (.agg #[.int .i64 a,.int .i64 c]) = inSet ds [a,c]:=encL_key (inSet ds) [a,c]
 rw [e]
 by_cases h : [a,c] ∈ ds <;> simp [inSet,h]
theorem inSet_store {ds : List (List Int)} {b : Nat} {W : World} (h : MapAt W Try.prog 23 b ds.length (encL (inSet ds))) {a c : Int} (ha : I64 a) (hc : I64 c) (hn : [a, c] ∉ ds) (hl : ds.length ≤ 10000) :
  ∃ w',(Instr.mapUpdate 104 (.map (some b)) (.agg #[.int .i64 a,.int .i64 c]) (.bool true)).run Try.prog W = .ok () w'∧MapAt w' Try.prog 23 b (ds ++ [[a,c]]).length (encL (inSet (ds ++ [[a,c]])))∧W.grownBy w' (some b):=by
 obtain ⟨w',h1,h2,h3⟩:=h.store law23 Try.underlying104 (by unfold maxLen;omega) (key23 ha hc) (val:=.bool true) (f':=encL (inSet (ds ++ [[a,c]]))) (inSet_new (ds:=ds) (q:=[a,c])) (inSet_far (ds:=ds) (q:=[a,c]))
 refine⟨w',h1,?_,h3⟩
 have e : encL (inSet ds) (.agg #[.int .i64 a,.int .i64 c]) = none:=by
  have:=encL_key (inSet ds) [a,c]
  rw [show keyL [a,c] = .agg #[.int .i64 a,.int .i64 c] from rfl] at this
  rw [this]
  simp [inSet,hn]
 rw [e] at h2
 simpa using h2
theorem lit_row23 (W : World) (x : S23) : Kd.R k23 23 (W.alloc (.cells #[.int .i64 x.f0,.int .i64 x.f1] 23)) W.heap.size (fun _=>True) (.slice (some ⟨W.heap.size,0,none⟩) 1 1) [x]:=by
 refine⟨fun k hk=>trivial,[.int .i64 x.f0,.int .i64 x.f1],?_,?_⟩
 ·have h2 := World.ownsRow_lit (base := W.heap.size) (e := 23) (size := 2) W #[.int .i64 x.f0, .int .i64 x.f1] 1 (Nat.le_refl _) (by decide) (by simp)
  exact(by simpa using h2 :(W.alloc (.cells #[.int .i64 x.f0,.int .i64 x.f1] 23)).ownsRow W.heap.size 23 2 (.slice (some ⟨W.heap.size,0,none⟩) 1 1) 1 [.int .i64 x.f0,.int .i64 x.f1])
 exact Reps.c2 (k23_mkM _ _ _ x) (Reps.none _ _)
end Go.Proofs.Ytnfmeafiaipplaa.S

namespace Go.Proofs.Ytnfmeafiaipplaa.S
open Go.Proofs.Ytnfmeafiaipplaa.Lib
open Go.Maps (Keyed)
open Go.RowKit Go.Proofs.YtnfmeafiaipplaaW.PrintWords Go.Proofs.YtnfmeafiaipplaaW.PrintLast Go.Proofs.YtnfmeafiaipplaaW.PrintMore
attribute [local go_sem] max2_int min2_int max_two min_two max_three min_three max_four min_four
set_option linter.unusedVariables false
set_option linter.unusedSimpArgs false

def relAdd (out : List S23) (q : Option (List Int)) : List S23 :=
  match q with
  | none=>out
  | some q=>if q ∈ out.map l23 then out else out ++ [s23 q]
def relIn (m : Option (List Int×List Int)) (j : Int) (out : List S23) : List S23 :=
  if j = 0 then relAdd (relAdd out (needGet m 97)) (needGet m 98) else if j = 1 then relAdd out (needGet m 98) else out
def relGo (t : List S39) : Nat → Int → List S23 → Option (List S23)
  | 0,_,_=>none
  | f + 1,i,out =>
    if i < out.length then
      (if 0 ≤ i ∧ out.length ≤ 5000 ∧ (0 ≤ (rd_T23 out i).f0 ∧ (rd_T23 out i).f0 < t.length) ∧ (0 ≤ (rd_T23 out i).f1 ∧ (rd_T23 out i).f1 < t.length) then
        relGo t f (i + 1) (relIn ((needsF (rd_T39 t (rd_T23 out i).f0) (rd_T39 t (rd_T23 out i).f1)).getD none) 0 out)
       else none)
    else some out
/-- Every pair that a node needs is a list of two ints. -/
theorem needs_two (x y : S39) (c : Int) (q : List Int) (h : needGet ((needsF x y).getD none) c = some q) : q = l23 (s23 q):=by
  unfold needsF at h
  repeat' split at h
  all_goals first
    |(cases h;done)
    |(simp [needGet] at h;done)
    | skip
  all_goals (
    simp only [Option.getD_some,needGet] at h
    split at h
    · cases h;rfl
    · split at h
      · cases h;rfl
      · cases h)
/-- All of a list's ints are ints of 64 bits. -/
def allI (t : List S39) : Prop:=∀ x ∈ t,I64 x.f0∧I64 x.f1∧I64 x.f2
theorem needs_I64 (x y : S39) (hx : I64 x.f1∧I64 x.f2) (hy : I64 y.f1∧I64 y.f2) (c : Int) (q : List Int) (h : needGet ((needsF x y).getD none) c = some q) : I64 (s23 q).f0∧I64 (s23 q).f1:=by
  unfold needsF at h
  repeat' split at h
  all_goals first
    |(cases h;done)
    |(simp [needGet] at h;done)
    | skip
  all_goals (
    simp only [Option.getD_some,needGet] at h
    split at h
    · cases h;simp [s23];first | exact⟨hx.1,hy.1⟩ | exact⟨hy.1,hx.1⟩ | exact⟨hx.2,hy.2⟩
    · split at h
      · cases h;simp [s23];first | exact⟨hx.1,hy.1⟩ | exact⟨hy.1,hx.1⟩ | exact⟨hx.2,hy.2⟩
      · cases h)
def RelSt (w wr : World) (b : Nat) (v : Value) (out : List S23) : Prop :=
  Below w.heap.size w wr∧w.heap.size≤b∧MapAt wr Try.prog 23 b (out.map l23).length (encL (inSet (out.map l23)))∧Kd.R k23 23 wr w.heap.size (fun _=>True) v out
theorem RelSt.below {w wr wr' : World} {b : Nat} {v : Value} {out : List S23} (h : RelSt w wr b v out) (hB : Below wr.heap.size wr wr') : RelSt w wr' b v out :=
  ⟨below_then h.1 h.1.size hB,h.2.1,h.2.2.1.below hB,Kd.R_below h.2.2.2 hB⟩
theorem blk_belowf {w w1 : World} {g : Nat} {o : Obj} (h : w.heap[g]? = some o) (hb : Below w.heap.size w w1) : w1.heap[g]? = some o:=bkB h hb
theorem blk_keptf {W W2 : World} {S : Nat→Prop} {g : Nat} {o : Obj} (hb : W.heap[g]? = some o) (hk : Kept W W2 S) (hne : ¬ S g) : W2.heap[g]? = some o:=blk_kept hb hk hne
/-- A new pair: it goes into the set and onto the list. -/
theorem rel_new {w wq : World} {b : Nat} {v : Value} {o : List S23} (h : RelSt w wq b v o) (q0 q1 : Int) (h0 : I64 q0) (h1 : I64 q1) (hn : [q0, q1] ∉ o.map l23) (hl : o.length ≤ 6000) :
    ∃ A c w4 A' c' w5, v = .slice A o.length c ∧ (Instr.mapUpdate 104 (.map (some b)) (.agg #[.int .i64 q0, .int .i64 q1]) (.bool true)).run Try.prog (wq.alloc (.cells #[.int .i64 q0, .int .i64 q1] 23)) = .ok () w4 ∧
      w4.cell? ⟨wq.heap.size,0,none⟩ = some (.int .i64 q0)∧w4.cell? ⟨wq.heap.size,1,none⟩ = some (.int .i64 q1) ∧
      (Builtin.append_ #[48,48] 48 #[v,.slice (some ⟨w4.heap.size,0,none⟩) 1 1]).run Try.prog (w4.alloc (.cells #[.int .i64 q0,.int .i64 q1] 23)) = .ok (.slice A' (o.length + 1) c') w5∧RelSt w w5 b (.slice A' (o.length + 1) c') (o ++ [⟨q0,q1⟩])∧Kept wq w5 (fun k=>k = b∨some k = v.ownBlock):=by
  obtain ⟨hB,hb,hm,hr⟩:=h
  obtain ⟨A,c,ev⟩:=Kd.R_slice hr
  obtain ⟨w4,hst,hm4,hg4⟩:=inSet_store (hm.alloc (.cells #[.int .i64 q0,.int .i64 q1] 23)) h0 h1 hn (by simp;omega)
  have hbx :(wq.alloc (.cells #[.int .i64 q0,.int .i64 q1] 23)).heap[wq.heap.size]? = some (.cells #[.int .i64 q0,.int .i64 q1] 23 (0,0)):=heap_alloc_new wq _
  have hbx4:=blk_grown hbx hg4 (by intro e;exact(hm.alloc (.cells #[.int .i64 q0,.int .i64 q1] 23)).ne hbx (Option.some.inj e).symm)
  have hB4 : Below w.heap.size w w4:=Below.grown (bwA hB _) hg4 (by have:=hB.size;simp;omega) (fun k hk=>by injection hk with hk;omega)
  have hr4:=R_mapped (Kd.R_alloc hr _) rfl (hm.alloc (.cells #[.int .i64 q0,.int .i64 q1] 23)) hg4
  obtain ⟨v1,w5,hrun,ho,hB5,hgr,hat⟩:=append_one k23 (P:=Try.prog) (w0:=w) (W:=w4) w.heap.size 48 48 23 (.agg #[.int .i64 0,.int .i64 0]) 16 Try.underlying48 info23 rfl (by decide) (by omega) (xs:=o) (⟨q0,q1⟩ : S23) [.int .i64 q0,.int .i64 q1] (ok:=fun _=>True) (fun _=>False) (k23_mkM _ _ _ _) (fun _ h=>h.elim) (fun _ _=>trivial) hr4 hB4 hB4.size (by omega)
  obtain ⟨A',c',ev'⟩:=Kd.R_slice ho
  have ev2 : v1 = .slice A' (o.length + 1) c':=by rw [ev'];simp
  subst ev2
  refine⟨A,c,w4,A',c',w5,ev,hst,(bkC hbx4 0).trans rfl,(bkC hbx4 1).trans rfl,hrun,⟨hB5,hb,?_,ho⟩,?_⟩
  · have := hm4.rowed hr4 hgr
    simpa [l23] using this
  exact(((Kept.refl wq _).alloc _).of_grown hg4 (fun k hk=>.inl (.inl (Option.some.inj hk).symm))).of_grown hgr (fun k hk=>.inl (.inr hk.symm))
theorem rel_apart {w wq : World} {b base : Nat} {v vm : Value} {o : List S23} {m : Option (List Int×List Int)} (h : RelSt w wq b v o) (hN : NeedsIs m base wq vm) (hb : b < base) : ∀ k,(k = b∨some k = v.ownBlock)→∀ b',vm = .map (some b')→k≠b':=by
  intro k hk b' hv
  cases m with
  | none=>rw [show vm = .map none from hN] at hv;cases hv
  | some p =>
    obtain ⟨b2,e2,h2,hm2⟩:=hN
    rw [e2] at hv
    obtain rfl : b2 = b':=by simpa using hv
    rcases hk with rfl | hk
    · omega
    obtain ⟨c,hc⟩:=own_blk h.2.2.2 hk
    exact fun e=>hm2.ne hc e.symm
/-- Behind '[]byte("ab")'. -/
theorem rel_conv {w W W2 : World} {b g : Nat} {v : Value} {out : List S23} (h : RelSt w W b v out) (hg : g = W.heap.size) (hk : Kept (W.alloc (.cells #[.int .u8 97,.int .u8 98] 5)) W2 (fun k=>k = g)) (hB : ∀ (B : Nat) (w : World),Below B w (W.alloc (.cells #[.int .u8 97,.int .u8 98] 5))→B≤g→Below B w W2) : RelSt w W2 b v out:=by
  have h':=h.below (bwA (Below.refl _ _) (.cells #[.int .u8 97,.int .u8 98] 5))
  have hgb :(W.alloc (.cells #[.int .u8 97,.int .u8 98] 5)).heap[g]? = some (.cells #[.int .u8 97,.int .u8 98] 5 (0,0)):=by rw [hg];exact heap_alloc_new W _
  refine⟨hB _ _ h'.1 (by rw [hg];exact h.1.size),h'.2.1,h'.2.2.1.block (hk.2 b h'.2.2.1.lt (fun e=>h'.2.2.1.ne hgb e)),R_apart h'.2.2.2 rfl hk ?_⟩
  rintro k c _ hc rfl
  exact absurd (blk_type hgb hc) (by decide)
theorem needs_conv {m : Option (List Int×List Int)} {base : Nat} {W W2 : World} {g : Nat} {v : Value} (h : NeedsIs m base W v) (hg : g = W.heap.size) (hk : Kept (W.alloc (.cells #[.int .u8 97,.int .u8 98] 5)) W2 (fun k=>k = g)) : NeedsIs m base W2 v:=by
  refine NeedsIs.kept (m:=m) (base:=base) (NeedsIs.below h (bwA (Below.refl _ _) (.cells #[.int .u8 97,.int .u8 98] 5))) hk ?_
  rintro k rfl b hv
  cases m with
  | none=>rw [show v = .map none from h] at hv;cases hv
  | some p =>
    obtain ⟨b2,e2,h2,hm2⟩:=h
    rw [e2] at hv
    obtain rfl : b2 = b:=by simpa using hv
    have:=hm2.lt
    omega
theorem rel_apart5 {w wq : World} {b g : Nat} {v : Value} {o : List S23} {c : Array Value} {f : Nat×Nat} (h : RelSt w wq b v o) (hg : wq.heap[g]? = some (.cells c 5 f)) : ¬ (g = b∨some g = v.ownBlock):=by
  rintro(rfl | he)
  · exact h.2.2.1.ne hg rfl
  obtain ⟨c1,e1⟩:=own_blk h.2.2.2 he
  rw [hg] at e1
  injection e1 with e1
  injection e1 with _ e1 _
  cases e1
set_option maxHeartbeats 4000000 in
set_option maxRecDepth 100000 in
theorem relation_fn.calls (A0 : Option Addr) (c0 : Nat) (l0 : List S39) (hall : allI l0) (p : S23) (r : List S23) (w : World) (hr0 : Kd.C k39 w A0 l0.length l0) (hp : (0 ≤ p.f0 ∧ p.f0 < l0.length) ∧ (0 ≤ p.f1 ∧ p.f1 < l0.length)) (h : relGo l0 10000 0 [p] = some r) :
    Calls Try.prog 50 #[.slice A0 l0.length c0,.agg #[.int .i64 p.f0,.int .i64 p.f1]] w fun e w'=>∃ v,e = .returned v∧Kd.R k23 23 w' w.heap.size (fun _=>True) v r∧Below w.heap.size w w':=by
  have hn :(l0.length : Int)≤9223372036854775807:=by have:=hr0.2.1;omega
  have hpi : I64 p.f0∧I64 p.f1:=⟨by constructor <;> omega,by constructor <;> omega⟩
  have H:=Aside0.mk h
  have HR0:=Aside0.mk hr0
  have HAL:=Aside0.mk hall
  have hmm:=@run_makeMap Try.prog
  obtain ⟨w3,hst,hm3,hg3⟩:=inSet_store (ds:=[]) ((MapAt.made ((w.alloc (.cells #[.int .i64 p.f0,.int .i64 p.f1] 23)).alloc (.cells #[.int .i64 p.f0,.int .i64 p.f1] 23)) Try.prog 23).congr (fun kv kl _=>by unfold encL inSet;cases decL kv <;> simp)) hpi.1 hpi.2 (by simp) (by simp)
  simp only [World.size_alloc] at hst hm3 hg3
  have HS0:=Aside0.mk (show RelSt w w3 (w.heap.size + 1 + 1) (.slice (some ⟨w.heap.size + 1,0,none⟩) 1 1) [p] from by
    refine⟨Below.grown (bwA (bwA (bwA (Below.refl _ _) _) _) _) hg3 (by simp;omega) (fun k hk=>by injection hk with hk;omega),by omega,hm3,?_⟩
    have h1:=lit_row23 (w.alloc (.cells #[.int .i64 p.f0,.int .i64 p.f1] 23)) p
    simp only [World.size_alloc] at h1
    have h2:=MapAt.made ((w.alloc (.cells #[.int .i64 p.f0,.int .i64 p.f1] 23)).alloc (.cells #[.int .i64 p.f0,.int .i64 p.f1] 23)) Try.prog 23
    simp only [World.size_alloc] at h2
    exact Kd.R_lower (R_mapped (Kd.R_alloc h1 _) rfl h2 hg3) (by omega))
  clear h hr0 hall hp hn hpi hm3 hg3
  go_enter Try.func50,Try.ntmps50
  go_wp2
  go_loopg [5,7] 10000 (fun kq v5 v7 wr=>∃ (i : Int) (out : List S23),v7 = .int .i64 i∧Aside0 (relGo l0 kq i out = some r)∧Aside0 (RelSt w wr (w.heap.size + 1 + 1) v5 out))
  case atStart=>exact⟨0,[p],rfl,H,HS0⟩
  clear H HS0
  obtain ⟨wo,rfl⟩ : ∃ wo,wo = wr:=⟨_,rfl⟩
  obtain ⟨i,out,rfl,HG,HS⟩:=hrel
  obtain ⟨mm,hm1⟩ : ∃ mm,gk = mm + 1:=by
    cases gk with
    | zero=>exact absurd HG.out (by simp [relGo])
    | succ mm=>exact⟨mm,rfl⟩
  have HG1:=HG.out
  rw [hm1] at HG1
  unfold relGo at HG1
  obtain ⟨An,cn,en⟩:=Kd.R_slice HS.out.2.2.2
  subst en
  have HMM:=Aside0.mk (show mm < gk by omega)
  by_cases c2 : i < (out.length : Int)
  rotate_left
  · rw [if_neg c2] at HG1
    obtain rfl:=Option.some.inj HG1
    have c2b0 : decide (i < (out.length : Int)) = false:=decide_eq_false c2
    clear c2 HG1 hm1
    go_wp2
    go_ret
    exact⟨_,rfl,HS.out.2.2.2,HS.out.1⟩
  rw [if_pos c2] at HG1
  split at HG1
  case isFalse=>cases HG1
  rename_i c3
  obtain ⟨b0,b1,b2,b3⟩:=c3
  obtain ⟨adn,ean,hx0,hx1⟩:=at_T23 (Kd.R_reads' HS.out.2.2.2).2.2 i b0 c2
  subst ean
  obtain ⟨P,hP⟩ : ∃ P,P = rd_T23 out i:=⟨_,rfl⟩
  rw [← hP] at hx0 hx1 b2 b3 HG1
  have c2b0 : decide (i < (out.length : Int)) = true:=decide_eq_true c2
  have hw : wrap64 (i + 1) = i + 1:=by unfold wrap64;omega
  have HW:=Aside0.mk hw
  have r0:=eq_true b0
  have r1:=eq_true c2
  have hX : ∀ a : Int,(0≤a∧a < l0.length)→I64 (rd_T39 l0 a).f1∧I64 (rd_T39 l0 a).f2:=fun a ha=>by
    have hlt : a.toNat < l0.length:=by omega
    have : rd_T39 l0 a ∈ l0:=by
      unfold rd_T39
      rw [List.getD_eq_getElem?_getD,List.getElem?_eq_getElem hlt,Option.getD_some]
      exact List.getElem_mem hlt
    exact(HAL.out _ this).2
  have HIX:=Aside0.mk (⟨hX _ b2,hX _ b3⟩ :(I64 (rd_T39 l0 P.f0).f1∧I64 (rd_T39 l0 P.f0).f2) ∧(I64 (rd_T39 l0 P.f1).f1∧I64 (rd_T39 l0 P.f1).f2))
  have HNC:=Aside0.mk (needs_fn.calls A0 c0 l0 P.f0 P.f1 wo (Kd.C_below HR0.out HS.out.1) b2 b3)
  obtain ⟨nd,hnd⟩ : ∃ nd,nd = needsF (rd_T39 l0 P.f0) (rd_T39 l0 P.f1):=⟨_,rfl⟩
  obtain ⟨m,hm⟩ : ∃ m,m = nd.getD none:=⟨_,rfl⟩
  rw [← hnd] at HG1 HNC
  rw [← hm] at HG1
  have HND:=Aside0.mk (show m =(needsF (rd_T39 l0 P.f0) (rd_T39 l0 P.f1)).getD none by rw [hm,hnd])
  have HM0:=Aside0.mk hm
  have HG2:=Aside0.mk HG1
  have HOL:=Aside0.mk b1
  have HBL:=Aside0.mk (show w.heap.size + 1 + 1 < wo.heap.size from HS.out.2.2.1.lt)
  clear HG HG1 c2 b0 b1 b2 b3 hP hX hnd hm hw hm1
  go_upto_region 8 with (first
    |(go_at_call 51;go_must (
        (with_reducible refine HNC.out.mono ?_);rintro e w1 ⟨hB1,vm,rfl,hN⟩;
        obtain ⟨W2,hcv,hK2,hs2,ha2,hb2,hty2,hBB2⟩:=conv_ab (w1.alloc (.cells #[.int .u8 97,.int .u8 98] 5)) w1.heap.size (heap_alloc_new w1 _);
        have HG:=Aside0.mk hty2;
        have HS2:=Aside0.mk (rel_conv (HS.out.below hB1) rfl hK2 hBB2);
        have HN2:=Aside0.mk (needs_conv (HM0.out ▸ hN) rfl hK2);
        clear hB1 hN hK2 hs2 ha2 hb2 hty2 hBB2)))
  go_wp2
  go_loopw [5,37] (fun v5 v37 wq=>∃ (j : Int) (o : List S23),v37 = .int .i64 j∧Aside0 ((0≤j∧j≤2)∧relIn m j o = relIn m 0 out ∧(o.length : Int)≤out.length + j)∧Aside0 (RelSt w wq (w.heap.size + 1 + 1) v5 o)∧Aside0 (NeedsIs m wo.heap.size wq vm)∧Aside0 (wq.heap[w1.heap.size]? = some (.cells #[.int .u8 97,.int .u8 98] 5 (2,3)))) (fun _ v37 _=>2 - (intOf v37).toNat)
  case atStart=>exact⟨0,out,rfl,⟨⟨by omega,rfl,by omega⟩⟩,HS2,HN2,HG⟩
  obtain ⟨j,o,rfl,HJ,HS1,HN1,HG1⟩:=hrel
  clear HS2 HN2 HG HS
  have HS:=HS1
  have HN:=HN1
  have HG:=HG1
  clear HS1 HN1 HG1
  obtain ⟨⟨j0,j2⟩,hin0,hol⟩:=HJ.out
  have hm:=HND.out
  clear HJ
  have hj3 : j = 0∨j = 1∨j = 2:=by omega
  have HOL1:=Aside0.mk (show o.length≤6000 by have:=HOL.out;omega)
  rcases hj3 with rfl | rfl | rfl
  · -- the letter 97
    have hc : wr.cell? ⟨w1.heap.size,0,none⟩ = some (.int .u8 97):=(cell_of_row wr w1.heap.size 0 _ _ _ HG.out).trans rfl
    have hin : relIn m 1 (relAdd o (needGet m 97)) = relIn m 0 out:=by rw [← hin0];rfl
    have hmo:=needs_lookOk HN.out (c:=97) (by omega)
    cases hq : needGet m 97 with
    | none =>
      have hmo' :(Instr.lookup 77 vm (.int .u8 97) true).run Try.prog wr = .ok (.tuple #[.agg #[.int .i64 0,.int .i64 0],.bool false]) wr:=by rw [hmo,hq];rfl
      rw [hq] at hin
      have HIN:=Aside0.mk (show(0 ≤(0 : Int) + 1 ∧(0 : Int) + 1≤2)∧relIn m (0 + 1) o = relIn m 0 out ∧(o.length : Int)≤out.length + (0 + 1) from⟨by omega,hin,by omega⟩)
      have HS1:=Aside0.mk (HS.out.below (bwA (Below.refl _ _) (.cells #[.int .i64 0,.int .i64 0] 23)))
      have HN1:=Aside0.mk (HN.out.below (bwA (Below.refl _ _) (.cells #[.int .i64 0,.int .i64 0] 23)))
      have HG1:=Aside0.mk (bkB HG.out (bwA (Below.refl _ _) (.cells #[.int .i64 0,.int .i64 0] 23)))
      clear hmo hin hin0 hq hol
      go_wp2
      go_roundw
      case rel=>exact⟨_,o,rfl,HIN,HS1,HN1,HG1⟩
      case measure=>simp [intOf]
    | some q =>
      obtain ⟨q0,q1,rfl⟩ : ∃ q0 q1,q = [q0,q1]:=⟨_,_,needs_two _ _ _ _ (hm ▸ hq)⟩
      have hI : I64 q0∧I64 q1:=(show I64 (s23 [q0,q1]).f0∧I64 (s23 [q0,q1]).f1 from needs_I64 _ _ HIX.out.1 HIX.out.2 _ _ (hm ▸ hq))
      have hmo' :(Instr.lookup 77 vm (.int .u8 97) true).run Try.prog wr = .ok (.tuple #[.agg #[.int .i64 q0,.int .i64 q1],.bool true]) wr:=by rw [hmo,hq];rfl
      rw [hq] at hin
      by_cases hk : [q0,q1] ∈ o.map l23
      · rw [show relAdd o (some [q0, q1]) = o from if_pos hk] at hin
        have hlk :(Instr.lookup 104 (.map (some (w.heap.size + 1 + 1))) (.agg #[.int .i64 q0,.int .i64 q1]) false).run Try.prog (wr.alloc (.cells #[.int .i64 q0,.int .i64 q1] 23)) = .ok (.bool true) (wr.alloc (.cells #[.int .i64 q0,.int .i64 q1] 23)):=by rw [inSet_look (HS.out.2.2.1.alloc _) hI.1 hI.2,decide_eq_true hk]
        have HIN:=Aside0.mk (show(0 ≤(0 : Int) + 1 ∧(0 : Int) + 1≤2)∧relIn m (0 + 1) o = relIn m 0 out ∧(o.length : Int)≤out.length + (0 + 1) from⟨by omega,hin,by omega⟩)
        have HS1:=Aside0.mk (HS.out.below (bwA (Below.refl _ _) (.cells #[.int .i64 q0,.int .i64 q1] 23)))
        have HN1:=Aside0.mk (HN.out.below (bwA (Below.refl _ _) (.cells #[.int .i64 q0,.int .i64 q1] 23)))
        have HG1:=Aside0.mk (blk_belowf HG.out (bwA (Below.refl _ _) (.cells #[.int .i64 q0,.int .i64 q1] 23)))
        clear hmo hin hin0 hq hk hI hol
        go_wp2
        go_roundw
        case rel=>exact⟨_,o,rfl,HIN,HS1,HN1,HG1⟩
        case measure=>simp [intOf]
      · rw [show relAdd o (some [q0, q1]) = o ++ [s23 [q0, q1]] from if_neg hk] at hin
        have hlk :(Instr.lookup 104 (.map (some (w.heap.size + 1 + 1))) (.agg #[.int .i64 q0,.int .i64 q1]) false).run Try.prog (wr.alloc (.cells #[.int .i64 q0,.int .i64 q1] 23)) = .ok (.bool false) (wr.alloc (.cells #[.int .i64 q0,.int .i64 q1] 23)):=by rw [inSet_look (HS.out.2.2.1.alloc _) hI.1 hI.2,decide_eq_false hk]
        obtain ⟨A,c,w4,A',c',w5,ev,hst,hc0,hc1,hrun,hS5,hK5⟩:=rel_new HS.out q0 q1 hI.1 hI.2 hk HOL1.out
        subst ev
        have HRUN:=Aside0.mk hrun
        have HIN:=Aside0.mk (show(0 ≤(0 : Int) + 1 ∧(0 : Int) + 1≤2)∧relIn m (0 + 1) (o ++ [s23 [q0,q1]]) = relIn m 0 out ∧((o ++ [s23 [q0,q1]]).length : Int)≤out.length + (0 + 1) from⟨by omega,hin,by simp;omega⟩)
        have HS1:=Aside0.mk (show RelSt w w5 (w.heap.size + 1 + 1) (.slice A' (o.length + 1) c') (o ++ [s23 [q0,q1]]) from hS5)
        have HN1:=Aside0.mk (NeedsIs.kept HN.out hK5 (rel_apart HS.out HN.out HBL.out))
        have HG1:=Aside0.mk (blk_keptf HG.out hK5 (rel_apart5 HS.out HG.out))
        clear hmo hin hin0 hq hk hI hrun hS5 hK5 hol
        go_wp2_with (at_builtin;go_must (refine wpList_appendRun _ rfl _ _ _ rfl HRUN.out rfl rfl rfl ?_))
        go_roundw
        case rel=>exact⟨_,o ++ [s23 [q0,q1]],rfl,HIN,HS1,HN1,HG1⟩
        case measure=>simp [intOf]
  · -- the letter 98
    have hc : wr.cell? ⟨w1.heap.size,1,none⟩ = some (.int .u8 98):=(cell_of_row wr w1.heap.size 1 _ _ _ HG.out).trans rfl
    have hin : relIn m 2 (relAdd o (needGet m 98)) = relIn m 0 out:=by rw [← hin0];rfl
    have hmo:=needs_lookOk HN.out (c:=98) (by omega)
    cases hq : needGet m 98 with
    | none =>
      have hmo' :(Instr.lookup 77 vm (.int .u8 98) true).run Try.prog wr = .ok (.tuple #[.agg #[.int .i64 0,.int .i64 0],.bool false]) wr:=by rw [hmo,hq];rfl
      rw [hq] at hin
      have HIN:=Aside0.mk (show(0 ≤(1 : Int) + 1 ∧(1 : Int) + 1≤2)∧relIn m (1 + 1) o = relIn m 0 out ∧(o.length : Int)≤out.length + (1 + 1) from⟨by omega,hin,by omega⟩)
      have HS1:=Aside0.mk (HS.out.below (bwA (Below.refl _ _) (.cells #[.int .i64 0,.int .i64 0] 23)))
      have HN1:=Aside0.mk (HN.out.below (bwA (Below.refl _ _) (.cells #[.int .i64 0,.int .i64 0] 23)))
      have HG1:=Aside0.mk (bkB HG.out (bwA (Below.refl _ _) (.cells #[.int .i64 0,.int .i64 0] 23)))
      clear hmo hin hin0 hq hol
      go_wp2
      go_roundw
      case rel=>exact⟨_,o,rfl,HIN,HS1,HN1,HG1⟩
      case measure=>simp [intOf]
    | some q =>
      obtain ⟨q0,q1,rfl⟩ : ∃ q0 q1,q = [q0,q1]:=⟨_,_,needs_two _ _ _ _ (hm ▸ hq)⟩
      have hI : I64 q0∧I64 q1:=(show I64 (s23 [q0,q1]).f0∧I64 (s23 [q0,q1]).f1 from needs_I64 _ _ HIX.out.1 HIX.out.2 _ _ (hm ▸ hq))
      have hmo' :(Instr.lookup 77 vm (.int .u8 98) true).run Try.prog wr = .ok (.tuple #[.agg #[.int .i64 q0,.int .i64 q1],.bool true]) wr:=by rw [hmo,hq];rfl
      rw [hq] at hin
      by_cases hk : [q0,q1] ∈ o.map l23
      · rw [show relAdd o (some [q0, q1]) = o from if_pos hk] at hin
        have hlk :(Instr.lookup 104 (.map (some (w.heap.size + 1 + 1))) (.agg #[.int .i64 q0,.int .i64 q1]) false).run Try.prog (wr.alloc (.cells #[.int .i64 q0,.int .i64 q1] 23)) = .ok (.bool true) (wr.alloc (.cells #[.int .i64 q0,.int .i64 q1] 23)):=by rw [inSet_look (HS.out.2.2.1.alloc _) hI.1 hI.2,decide_eq_true hk]
        have HIN:=Aside0.mk (show(0 ≤(1 : Int) + 1 ∧(1 : Int) + 1≤2)∧relIn m (1 + 1) o = relIn m 0 out ∧(o.length : Int)≤out.length + (1 + 1) from⟨by omega,hin,by omega⟩)
        have HS1:=Aside0.mk (HS.out.below (bwA (Below.refl _ _) (.cells #[.int .i64 q0,.int .i64 q1] 23)))
        have HN1:=Aside0.mk (HN.out.below (bwA (Below.refl _ _) (.cells #[.int .i64 q0,.int .i64 q1] 23)))
        have HG1:=Aside0.mk (blk_belowf HG.out (bwA (Below.refl _ _) (.cells #[.int .i64 q0,.int .i64 q1] 23)))
        clear hmo hin hin0 hq hk hI hol
        go_wp2
        go_roundw
        case rel=>exact⟨_,o,rfl,HIN,HS1,HN1,HG1⟩
        case measure=>simp [intOf]
      · rw [show relAdd o (some [q0, q1]) = o ++ [s23 [q0, q1]] from if_neg hk] at hin
        have hlk :(Instr.lookup 104 (.map (some (w.heap.size + 1 + 1))) (.agg #[.int .i64 q0,.int .i64 q1]) false).run Try.prog (wr.alloc (.cells #[.int .i64 q0,.int .i64 q1] 23)) = .ok (.bool false) (wr.alloc (.cells #[.int .i64 q0,.int .i64 q1] 23)):=by rw [inSet_look (HS.out.2.2.1.alloc _) hI.1 hI.2,decide_eq_false hk]
        obtain ⟨A,c,w4,A',c',w5,ev,hst,hc0,hc1,hrun,hS5,hK5⟩:=rel_new HS.out q0 q1 hI.1 hI.2 hk HOL1.out
        subst ev
        have HRUN:=Aside0.mk hrun
        have HIN:=Aside0.mk (show(0 ≤(1 : Int) + 1 ∧(1 : Int) + 1≤2)∧relIn m (1 + 1) (o ++ [s23 [q0,q1]]) = relIn m 0 out ∧((o ++ [s23 [q0,q1]]).length : Int)≤out.length + (1 + 1) from⟨by omega,hin,by simp;omega⟩)
        have HS1:=Aside0.mk (show RelSt w w5 (w.heap.size + 1 + 1) (.slice A' (o.length + 1) c') (o ++ [s23 [q0,q1]]) from hS5)
        have HN1:=Aside0.mk (NeedsIs.kept HN.out hK5 (rel_apart HS.out HN.out HBL.out))
        have HG1:=Aside0.mk (blk_keptf HG.out hK5 (rel_apart5 HS.out HG.out))
        clear hmo hin hin0 hq hk hI hrun hS5 hK5 hol
        go_wp2_with (at_builtin;go_must (refine wpList_appendRun _ rfl _ _ _ rfl HRUN.out rfl rfl rfl ?_))
        go_roundw
        case rel=>exact⟨_,o ++ [s23 [q0,q1]],rfl,HIN,HS1,HN1,HG1⟩
        case measure=>simp [intOf]
  have HGF:=Aside0.mk (show relGo l0 mm (i + 1) o = some r by
    have:=HG2.out
    rwa [show relIn m 0 out = o from hin0.symm] at this)
  clear hin0 hm hol
  go_wp2
  go_roundg mm
  case measure=>exact HMM.out
  exact⟨i + 1,o,by rw [HW.out],HGF,HS⟩

abbrev Bad:=List (List Int×Int)
def badM (bs : Bad) : List Int→Option Value:=fun q=>(bs.lookup q).map (.int .u8)
def letOf (bs : Bad) (q : List Int) : Int:=(bs.lookup q).getD 0
def hasK (bs : Bad) (q : List Int) : Bool:=(bs.lookup q).isSome
def abStep (bs : Bad) (p : S23) (q : Option (List Int)) (c : Int) (st : List S23×Bad) : List S23×Bad :=
 match q with
 | none=>st
 | some q=>if letOf st.2 (l23 p) = 0∧hasK bs q = true then(st.1 ++ [p],(l23 p,c) :: st.2) else st
def abIn (bs : Bad) (p : S23) (m : Option (List Int×List Int)) (j : Int) (st : List S23×Bad) : List S23×Bad :=
 if j = 0 then abStep bs p (needGet m 98) 98 (abStep bs p (needGet m 97) 97 st) else if j = 1 then abStep bs p (needGet m 98) 98 st else st
def cellStep (t : List S39) (bs : Bad) (i j : Int) (st : List S23×Bad) : List S23×Bad :=
 if hasK bs [i,j] = true then st else
 match needsF (rd_T39 t i) (rd_T39 t j) with
 | none=>(st.1 ++ [⟨i,j⟩],st.2)
 | some m=>abIn bs ⟨i,j⟩ m 0 st
def jGo (t : List S39) (bs : Bad) (i : Int) : Nat → Int → List S23 × Bad → Option (List S23 × Bad)
 | 0,_,_=>none
 | f + 1,j,st =>
  if j < t.length then(if 0≤j∧st.1.length≤20000∧st.2.length≤20000 then jGo t bs i f (j + 1) (cellStep t bs i j st) else none) else some st
def iGo (t : List S39) (bs : Bad) : Nat → Int → List S23 × Bad → Option (List S23 × Bad)
 | 0,_,_=>none
 | f + 1,i,st =>
  if i < t.length then(if 0≤i then(jGo t bs i 200 0 st).bind fun st=>iGo t bs f (i + 1) st else none) else some st
def addGo (fs : List S23) (ls : Bad) : Nat → Int → Bad → Option Bad
 | 0,_,_=>none
 | f + 1,k,bs =>
  if k < fs.length then(if 0≤k∧bs.length≤1000000∧i64B (rd_T23 fs k).f0 = true∧i64B (rd_T23 fs k).f1 = true then addGo fs ls f (k + 1) ((l23 (rd_T23 fs k),letOf ls (l23 (rd_T23 fs k))) :: bs) else none) else some bs
def refGo (t : List S39) : Nat → Bool → Bad → Option Bad
 | 0,_,_=>none
 | f + 1,grown,bs =>
  if grown = true then
   (if t.length≤100∧bs.length≤1000000 then(iGo t bs 200 0 ([],[])).bind fun st=>if st.1.length≤20000 then(addGo st.1 st.2 30000 0 bs).bind fun bs'=>refGo t f (decide (0 < st.1.length)) bs' else none else none)
  else some bs
theorem badM_put {bs : Bad} {q : List Int} {c : Int} : encL (badM ((q,c) :: bs)) (keyL q) = some (.int .u8 c):=by
 rw [encL_key]
 simp [badM]
theorem badM_far {bs : Bad} {q : List Int} {c : Int} : ∀ v,v≠keyL q→encL (badM ((q,c) :: bs)) v = encL (badM bs) v:=by
 intro v hv
 unfold encL
 cases hd : decL v with
 | none=>rfl
 | some y =>
  have : y≠q:=fun e=>hv (by rw [decL_eq hd,e])
  have hb :(y == q) = false:=by simpa using this
  simp [badM,List.lookup_cons,hb]
def MapIn (W : World) (b : Nat) (bs : Bad) : Prop:=∃ m,m≤bs.length∧MapAt W Try.prog 23 b m (encL (badM bs))
theorem MapIn.below {W W' : World} {b : Nat} {bs : Bad} (h : MapIn W b bs) (hB : Below W.heap.size W W') : MapIn W' b bs:=by
 obtain ⟨m,h1,h2⟩:=h
 exact⟨m,h1,h2.below hB⟩
theorem MapIn.lt {W : World} {b : Nat} {bs : Bad} (h : MapIn W b bs) : b < W.heap.size:=by
 obtain ⟨m,h1,h2⟩:=h
 exact h2.lt
theorem MapIn.ne {W : World} {b : Nat} {bs : Bad} (h : MapIn W b bs) {g : Nat} {cs : Array Value} {t : TypeId} {fr : Nat×Nat} (hg : W.heap[g]? = some (.cells cs t fr)) : b≠g:=by
 obtain ⟨m,h1,h2⟩:=h
 exact h2.ne hg
theorem MapIn.kept {W W' : World} {b : Nat} {bs : Bad} (h : MapIn W b bs) {S : Nat→Prop} (hk : Kept W W' S) (hS : ¬ S b) : MapIn W' b bs:=by
 obtain ⟨m,h1,h2⟩:=h
 exact⟨m,h1,h2.block (hk.2 b h2.lt hS)⟩
theorem MapIn.rowed {W W' : World} {b : Nat} {bs : Bad} (h : MapIn W b bs) {α : Type} {d : Kd α} {e base : Nat} {ok : Nat→Prop} {v : Value} {xs : List α} (hr : d.R e W base ok v xs) (hg : W.grownBy W' v.ownBlock) : MapIn W' b bs:=by
 obtain ⟨m,h1,h2⟩:=h
 exact⟨m,h1,h2.rowed hr hg⟩
theorem MapIn.made (W : World) : MapIn (W.alloc (.map #[] 0)) W.heap.size [] :=
 ⟨0,by simp,(MapAt.made W Try.prog 23).congr (fun kv kl _=>by unfold encL badM;cases decL kv <;> simp)⟩
theorem MapIn.lookOk {W : World} {b : Nat} {bs : Bad} (h : MapIn W b bs) {a c : Int} (ha : I64 a) (hc : I64 c) :
  (Instr.lookup 72 (.map (some b)) (.agg #[.int .i64 a,.int .i64 c]) true).run Try.prog W = .ok (.tuple #[.int .u8 (letOf bs [a,c]),.bool (hasK bs [a,c])]) W:=by
 obtain ⟨m,h1,h2⟩:=h
 have:=h2.lookOk law23 Try.underlying72 (zu_run W) (key23 ha hc)
 rw [this]
 have e : encL (badM bs) (.agg #[.int .i64 a,.int .i64 c]) = badM bs [a,c]:=encL_key (badM bs) [a,c]
 rw [e]
 unfold badM letOf hasK
 cases bs.lookup [a,c] <;> rfl
theorem MapIn.look {W : World} {b : Nat} {bs : Bad} (h : MapIn W b bs) {a c : Int} (ha : I64 a) (hc : I64 c) :
  (Instr.lookup 72 (.map (some b)) (.agg #[.int .i64 a,.int .i64 c]) false).run Try.prog W = .ok (.int .u8 (letOf bs [a,c])) W:=by
 obtain ⟨m,h1,h2⟩:=h
 have:=h2.look law23 Try.underlying72 (zu_run W) (key23 ha hc)
 rw [this]
 have e : encL (badM bs) (.agg #[.int .i64 a,.int .i64 c]) = badM bs [a,c]:=encL_key (badM bs) [a,c]
 rw [e]
 unfold badM letOf
 cases bs.lookup [a,c] <;> rfl
theorem MapIn.store {W : World} {b : Nat} {bs : Bad} (h : MapIn W b bs) {a c : Int} (x : Int) (ha : I64 a) (hc : I64 c) (hl : bs.length ≤ 1000000) :
  ∃ w',(Instr.mapUpdate 72 (.map (some b)) (.agg #[.int .i64 a,.int .i64 c]) (.int .u8 x)).run Try.prog W = .ok () w'∧MapIn w' b (([a,c],x) :: bs)∧W.grownBy w' (some b):=by
 obtain ⟨m,h1,h2⟩:=h
 obtain ⟨w',r1,r2,r3⟩:=h2.store law23 Try.underlying72 (by unfold maxLen;omega) (key23 ha hc) (val:=.int .u8 x) (f':=encL (badM (([a,c],x) :: bs))) (badM_put (bs:=bs) (q:=[a,c])) (badM_far (bs:=bs) (q:=[a,c]))
 refine⟨w',r1,⟨_,?_,r2⟩,r3⟩
 simp
 split <;> omega
/-- The two maps and the list of fresh pairs. -/
def RefSt (w wr : World) (b : Nat) (bs : Bad) (b6 : Nat) (v : Value) (st : List S23×Bad) : Prop :=
 Below w.heap.size w wr ∧(w.heap.size≤b∧b < b6)∧MapIn wr b bs∧MapIn wr b6 st.2∧Kd.R k23 23 wr w.heap.size (fun _=>True) v st.1
theorem RefSt.below {w wr wr' : World} {b b6 : Nat} {bs : Bad} {v : Value} {st : List S23×Bad} (h : RefSt w wr b bs b6 v st) (hB : Below wr.heap.size wr wr') : RefSt w wr' b bs b6 v st :=
 ⟨below_then h.1 h.1.size hB,h.2.1,h.2.2.1.below hB,h.2.2.2.1.below hB,Kd.R_below h.2.2.2.2 hB⟩
/-- A pair is appended to the fresh ones. -/
theorem ref_app {w W : World} {b b6 : Nat} {bs : Bad} {v : Value} {st : List S23 × Bad} (h : RefSt w W b bs b6 v st) (p0 p1 : Int) (hl : st.1.length ≤ 30000) :
  ∃ A c A' c' w5, v = .slice A st.1.length c ∧ (Builtin.append_ #[48, 48] 48 #[v, .slice (some ⟨W.heap.size, 0, none⟩) 1 1]).run Try.prog (W.alloc (.cells #[.int .i64 p0, .int .i64 p1] 23)) = .ok (.slice A' (st.1.length + 1) c') w5 ∧
   RefSt w w5 b bs b6 (.slice A' (st.1.length + 1) c') (st.1 ++ [⟨p0,p1⟩],st.2)∧W.grownBy w5 v.ownBlock ∧(∀ g,g < W.heap.size→some g≠v.ownBlock→some g ≠(Value.slice A' (st.1.length + 1) c').ownBlock):=by
 obtain ⟨hB,hb,hm,hm6,hr⟩:=h
 obtain ⟨A,c,ev⟩:=Kd.R_slice hr
 obtain ⟨v1,w5,hrun,ho,hB5,hgr,hat⟩:=append_one k23 (P:=Try.prog) (w0:=w) (W:=W) w.heap.size 48 48 23 (.agg #[.int .i64 0,.int .i64 0]) 16 Try.underlying48 info23 rfl (by decide) (by omega) (xs:=st.1) (⟨p0,p1⟩ : S23) [.int .i64 p0,.int .i64 p1] (ok:=fun _=>True) (fun _=>False) (k23_mkM _ _ _ _) (fun _ h=>h.elim) (fun _ _=>trivial) hr hB hB.size (by omega)
 obtain ⟨A',c',ev'⟩:=Kd.R_slice ho
 have ev2 : v1 = .slice A' (st.1.length + 1) c':=by rw [ev'];simp
 subst ev2
 refine⟨A,c,A',c',w5,ev,hrun,⟨hB5,hb,hm.rowed hr hgr,hm6.rowed hr hgr,ho⟩,hgr,?_⟩
 intro g hg hne
 rcases hat with e |⟨x,e,hx⟩
 ·rw [e];exact hne
 rw [e]
 intro e2
 injection e2 with e2
 omega
/-- A letter is laid down. -/
theorem ref_let {w W : World} {b b6 : Nat} {bs : Bad} {v : Value} {fs : List S23} {ls : Bad} (h : RefSt w W b bs b6 v (fs, ls)) (p0 p1 x : Int) (h0 : I64 p0) (h1 : I64 p1) (hl : ls.length ≤ 1000000) :
  ∃ w6,(Instr.mapUpdate 72 (.map (some b6)) (.agg #[.int .i64 p0,.int .i64 p1]) (.int .u8 x)).run Try.prog W = .ok () w6∧RefSt w w6 b bs b6 v (fs,([p0,p1],x) :: ls)∧W.grownBy w6 (some b6):=by
 obtain ⟨hB,hb,hm,hm6,hr⟩:=h
 obtain ⟨w6,hst,hm6',hg⟩:=hm6.store x h0 h1 hl
 refine⟨w6,hst,⟨Below.grown hB hg hB.size (fun k hk=>by injection hk with hk;omega),hb,?_,hm6',?_⟩,hg⟩
 ·exact hm.kept (S:=fun k=>k = b6) ⟨hg.size,fun i hi hn=>hg.block i hi (fun e=>hn (Option.some.inj e))⟩ (by omega)
 obtain ⟨m,_,hm0⟩:=hm6
 exact R_mapped hr rfl hm0 hg
/-- Behind '[]byte("ab")'. -/
theorem ref_conv {w W W2 : World} {b b6 g : Nat} {bs : Bad} {v : Value} {st : List S23×Bad} (h : RefSt w W b bs b6 v st) (hg : g = W.heap.size) (hk : Kept (W.alloc (.cells #[.int .u8 97,.int .u8 98] 5)) W2 (fun k=>k = g)) (hB : ∀ (B : Nat) (w : World),Below B w (W.alloc (.cells #[.int .u8 97,.int .u8 98] 5))→B≤g→Below B w W2) : RefSt w W2 b bs b6 v st:=by
 have h':=h.below (bwA (Below.refl _ _) (.cells #[.int .u8 97,.int .u8 98] 5))
 have hgb :(W.alloc (.cells #[.int .u8 97,.int .u8 98] 5)).heap[g]? = some (.cells #[.int .u8 97,.int .u8 98] 5 (0,0)):=by rw [hg];exact heap_alloc_new W _
 refine⟨hB _ _ h'.1 (by rw [hg];exact h.1.size),h'.2.1,h'.2.2.1.kept hk (h'.2.2.1.ne hgb),h'.2.2.2.1.kept hk (h'.2.2.2.1.ne hgb),R_apart h'.2.2.2.2 rfl hk ?_⟩
 rintro k c _ hc rfl
 exact absurd (blk_type hgb hc) (by decide)
theorem needs_apart {m : Option (List Int×List Int)} {base : Nat} {W : World} {vm : Value} (hN : NeedsIs m base W vm) {S : Nat→Prop} (hS : ∀ k,S k→k < base∨∃ c t f,W.heap[k]? = some (.cells c t f)) : ∀ k,S k→∀ b',vm = .map (some b')→k≠b':=by
 intro k hk b' hv
 cases m with
 | none=>rw [show vm = .map none from hN] at hv;cases hv
 | some p =>
  obtain ⟨b2,e2,h2,hm2⟩:=hN
  rw [e2] at hv
  obtain rfl : b2 = b':=by simpa using hv
  rcases hS k hk with h |⟨c,t,f,hc⟩
  ·omega
  exact fun e=>hm2.ne hc e.symm
theorem grown_kept {W W' : World} {row : Option Nat} (hg : W.grownBy W' row) : Kept W W' (fun k=>some k = row):=⟨hg.size,fun i hi hn=>hg.block i hi hn⟩
theorem grown_kept1 {W W' : World} {b : Nat} (hg : W.grownBy W' (some b)) : Kept W W' (fun k=>k = b):=⟨hg.size,fun i hi hn=>hg.block i hi (fun e=>hn (Option.some.inj e))⟩
/-- A pair is known as bad. -/
theorem ref_bad {w W : World} {b b6 : Nat} {bs : Bad} {v : Value} {st : List S23 × Bad} (h : RefSt w W b bs b6 v st) (p0 p1 x : Int) (h0 : I64 p0) (h1 : I64 p1) (hl : bs.length ≤ 1000000) :
  ∃ w6,(Instr.mapUpdate 72 (.map (some b)) (.agg #[.int .i64 p0,.int .i64 p1]) (.int .u8 x)).run Try.prog W = .ok () w6∧RefSt w w6 b (([p0,p1],x) :: bs) b6 v st:=by
 obtain ⟨hB,hb,hm,hm6,hr⟩:=h
 obtain ⟨w6,hst,hm',hg⟩:=hm.store x h0 h1 hl
 refine⟨w6,hst,⟨Below.grown hB hg hB.size (fun k hk=>by injection hk with hk;omega),hb,hm',?_,?_⟩⟩
 ·exact hm6.kept (S:=fun k=>k = b) (grown_kept1 hg) (by omega)
 obtain ⟨m,_,hm0⟩:=hm
 exact R_mapped hr rfl hm0 hg
theorem ref_fresh {w W : World} {b b6 : Nat} {bs : Bad} {v : Value} {st : List S23×Bad} (h : RefSt w W b bs b6 v st) : some W.heap.size≠v.ownBlock:=by
 intro he
 obtain ⟨c1,e1⟩:=own_blk h.2.2.2.2 he
 have:=blk_lt e1
 omega
theorem ref_no5 {w wq : World} {b b6 g : Nat} {bs : Bad} {v : Value} {st : List S23×Bad} {c : Array Value} {f : Nat×Nat} (h : RefSt w wq b bs b6 v st) (hg : wq.heap[g]? = some (.cells c 5 f)) : ¬ (some g = v.ownBlock):=by
 intro he
 obtain ⟨c1,e1⟩:=own_blk h.2.2.2.2 he
 rw [hg] at e1
 injection e1 with e1
 injection e1 with _ e1 _
 cases e1
set_option maxHeartbeats 4000000 in
set_option maxRecDepth 100000 in
theorem refuse_fn.calls (A0 : Option Addr) (c0 : Nat) (l0 : List S39) (hall : allI l0) (r : Bad) (w : World) (hr0 : Kd.C k39 w A0 l0.length l0) (h : refGo l0 1000 true [] = some r) :
  Calls Try.prog 48 #[.slice A0 l0.length c0] w fun e w'=>∃ b,e = .returned (.map (some b))∧MapIn w' b r∧Below w.heap.size w w':=by
 have H:=Aside0.mk h
 have HR0:=Aside0.mk hr0
 have HAL:=Aside0.mk hall
 have hmm:=@run_makeMap Try.prog
 clear h hr0 hall
 go_enter Try.func48,Try.ntmps48
 go_wp2
 go_loopg [4] 1000 (fun kq v4 wr=>∃ (g : Bool) (bs : Bad),v4 = .bool g∧Aside0 (refGo l0 kq g bs = some r)∧Aside0 (MapIn wr w.heap.size bs)∧Aside0 (Below w.heap.size w wr))
 case atStart=>exact⟨true,[],rfl,H,⟨MapIn.made w⟩,⟨bwA (Below.refl _ _) _⟩⟩
 clear H
 obtain ⟨wo,rfl⟩ : ∃ wo,wo = wr:=⟨_,rfl⟩
 obtain ⟨g,bs,rfl,HG,HM,HB⟩:=hrel
 obtain ⟨mo,hmo⟩ : ∃ mo,gk = mo + 1:=by
  cases gk with
  | zero=>exact absurd HG.out (by simp [refGo])
  | succ mo=>exact⟨mo,rfl⟩
 have HG1:=HG.out
 rw [hmo] at HG1
 unfold refGo at HG1
 have HMO:=Aside0.mk (show mo < gk by omega)
 cases g with
 | false =>
  rw [if_neg (by decide)] at HG1
  obtain rfl:=Option.some.inj HG1
  clear HG HG1 hmo
  go_wp2
  go_ret
  exact⟨_,rfl,HM.out,HB.out⟩
 | true =>
  rw [if_pos rfl] at HG1
  by_cases c1 : l0.length≤100∧bs.length≤1000000
  case neg=>rw [if_neg c1] at HG1;cases HG1
  rw [if_pos c1] at HG1
  replace HG1:=Option.bind_eq_some_iff.mp HG1
  obtain ⟨stE,hI,HG1⟩:=HG1
  by_cases c2 : stE.1.length≤20000
  case neg=>rw [if_neg c2] at HG1;cases HG1
  rw [if_pos c2] at HG1
  replace HG1:=Option.bind_eq_some_iff.mp HG1
  obtain ⟨bsE,hA,HG1⟩:=HG1
  have HGN:=Aside0.mk HG1
  have HIG:=Aside0.mk hI
  have HAG:=Aside0.mk hA
  have HLE:=Aside0.mk c1
  have HFE:=Aside0.mk c2
  have HS0:=Aside0.mk (show RefSt w (wo.alloc (.map #[] 0)) w.heap.size bs wo.heap.size (.slice none 0 0) ([],[]) from⟨bwA HB.out _,⟨Nat.le_refl _,HM.out.lt⟩,HM.out.below (bwA (Below.refl _ _) _),MapIn.made wo,Kd.R_nil _ _ _ _ _⟩)
  clear HG HG1 hmo hI hA c1 c2 HM HB
  go_wp2
  go_loopg [5,27] 200 (fun kq v5 v27 wi=>∃ (i : Int) (st : List S23×Bad),v27 = .int .i64 i∧Aside0 (iGo l0 bs kq i st = some stE)∧Aside0 (RefSt w wi w.heap.size bs wo.heap.size v5 st))
  case atStart=>exact⟨0,([],[]),rfl,HIG,HS0⟩
  clear HIG HS0
  obtain ⟨wi,rfl⟩ : ∃ wi,wi = wr:=⟨_,rfl⟩
  obtain ⟨i,si,rfl,HG,HSI⟩:=hrel
  obtain ⟨mi,hmi⟩ : ∃ mi,gk = mi + 1:=by
   cases gk with
   | zero=>exact absurd HG.out (by simp [iGo])
   | succ mi=>exact⟨mi,rfl⟩
  have HG1:=HG.out
  rw [hmi] at HG1
  unfold iGo at HG1
  have HMI:=Aside0.mk (show mi < gk by omega)
  have hn:=HLE.out.1
  by_cases ci : i < (l0.length : Int)
  rotate_left
  ·rw [if_neg ci] at HG1
   obtain rfl:=Option.some.inj HG1
   have ci1 : decide (i < (l0.length : Int)) = false:=decide_eq_false ci
   obtain ⟨An,cn,en⟩:=Kd.R_slice HSI.out.2.2.2.2
   subst en
   clear HG HG1 hmi ci hn
   go_wp2
   clear ci1
   go_loopg [96] 30000 (fun kq v96 wk=>∃ (k : Int) (bk : Bad),v96 = .int .i64 k∧Aside0 (addGo si.1 si.2 kq k bk = some bsE)∧Aside0 (RefSt w wk w.heap.size bk wo.heap.size (.slice An si.1.length cn) si))
   case atStart=>exact⟨0,bs,rfl,HAG,HSI⟩
   clear HAG HSI
   obtain ⟨wk,rfl⟩ : ∃ wk,wk = wr:=⟨_,rfl⟩
   obtain ⟨k,bk,rfl,HG,HS⟩:=hrel
   obtain ⟨mk,hmk⟩ : ∃ mk,gk = mk + 1:=by
    cases gk with
    | zero=>exact absurd HG.out (by simp [addGo])
    | succ mk=>exact⟨mk,rfl⟩
   have HG1:=HG.out
   rw [hmk] at HG1
   unfold addGo at HG1
   have HMK:=Aside0.mk (show mk < gk by omega)
   have hn:=HFE.out
   by_cases ck : k < (si.1.length : Int)
   rotate_left
   ·rw [if_neg ck] at HG1
    obtain rfl:=Option.some.inj HG1
    have ck1 : decide (k < (si.1.length : Int)) = false:=decide_eq_false ck
    clear HG HG1 hmk ck hn
    by_cases cl : 0 < si.1.length
    ·have HGT := Aside0.mk (show refGo l0 mo true bk = some r by have := HGN.out; rwa [decide_eq_true cl] at this)
     have cl1 : decide (0 < si.1.length) = true:=decide_eq_true cl
     have cl2 : decide (0 < (si.1.length : Int)) = true:=decide_eq_true (by omega)
     clear cl
     go_wp2
     go_roundg mo
     case measure=>exact HMO.out
     exact⟨true,bk,rfl,HGT,⟨HS.out.2.2.1⟩,⟨HS.out.1⟩⟩
    have HGT:=Aside0.mk (show refGo l0 mo false bk = some r by have:=HGN.out;rwa [decide_eq_false cl] at this)
    have cl1 : decide (0 < si.1.length) = false:=decide_eq_false cl
    have cl2 : decide (0 < (si.1.length : Int)) = false:=decide_eq_false (by omega)
    clear cl
    go_wp2
    go_roundg mo
    case measure=>exact HMO.out
    exact⟨false,bk,rfl,HGT,⟨HS.out.2.2.1⟩,⟨HS.out.1⟩⟩
   rw [if_pos ck] at HG1
   obtain ⟨P,hP⟩ : ∃ P,P = rd_T23 si.1 k:=⟨_,rfl⟩
   rw [← hP] at HG1
   by_cases ck0 : 0≤k∧bk.length≤1000000∧i64B P.f0 = true∧i64B P.f1 = true
   case neg=>rw [if_neg ck0] at HG1;cases HG1
   rw [if_pos ck0] at HG1
   have hI0:=i64B_I64 ck0.2.2.1
   have hI1:=i64B_I64 ck0.2.2.2
   obtain ⟨ad,ea,hx0,hx1⟩:=at_T23 (Kd.R_reads' HS.out.2.2.2.2).2.2 k ck0.1 ck
   rw [← hP] at hx0 hx1
   subst ea
   have HWK:=Aside0.mk (show wrap64 (k + 1) = k + 1 by unfold wrap64;omega)
   have HGF:=Aside0.mk HG1
   have ck1 : decide (k < (si.1.length : Int)) = true:=decide_eq_true ck
   have r0:=eq_true ck0.1
   have r1:=eq_true ck
   have hb1 :((wk.alloc (.cells #[.int .i64 P.f0,.int .i64 P.f1] 23)).drewN 1).heap[wk.heap.size]? = some (.cells #[.int .i64 P.f0,.int .i64 P.f1] 23 (0,0)):=heap_alloc_new wk _
   have hc0 :((wk.alloc (.cells #[.int .i64 P.f0,.int .i64 P.f1] 23)).drewN 1).cell? ⟨wk.heap.size,0,none⟩ = some (.int .i64 P.f0):=(bkC hb1 0).trans rfl
   have hc1 :((wk.alloc (.cells #[.int .i64 P.f0,.int .i64 P.f1] 23)).drewN 1).cell? ⟨wk.heap.size,1,none⟩ = some (.int .i64 P.f1):=(bkC hb1 1).trans rfl
   have hS1:=(HS.out.below (bwA (Below.refl _ _) (.cells #[.int .i64 P.f0,.int .i64 P.f1] 23))).below (bwN (Below.refl _ _) 1)
   have hlk:=hS1.2.2.2.1.look hI0 hI1
   obtain ⟨x,hx⟩ : ∃ x,x = letOf si.2 [P.f0,P.f1]:=⟨_,rfl⟩
   rw [← hx] at hlk
   obtain ⟨w6,hst,hS6⟩:=ref_bad hS1 P.f0 P.f1 x hI0 hI1 ck0.2.1
   have HS6:=Aside0.mk (show RefSt w w6 w.heap.size ((l23 P,letOf si.2 (l23 P)) :: bk) wo.heap.size (.slice (some ad) si.1.length cn) si by rw [show letOf si.2 (l23 P) = x from hx.symm];exact hS6)
   clear HG HG1 hmk ck ck0 hn hP hI0 hI1 hb1 hS1 hx hS6 HS
   go_wp2
   refine wp_region_still_tail 5 (by kernel_rfl) (by kernel_rfl) ?_
   simp only [List.take_succ_cons,List.take_zero,List.drop_succ_cons,List.drop_zero]
   change wpStill _ _ ((wk.alloc (.cells #[.int .i64 P.f0,.int .i64 P.f1] 23)).drewN 1) _ _ _
   repeat still_step
   refine wpStill_nil ?_
   change wpList _ _ _ _ _ ((wk.alloc (.cells #[.int .i64 P.f0,.int .i64 P.f1] 23)).drewN 1)
   go_wp2
   go_roundg mk
   case measure=>exact HMK.out
   exact⟨k + 1,_,by rw [HWK.out],HGF,HS6⟩
  rw [if_pos ci] at HG1
  by_cases ci0 : 0≤i
  case neg=>rw [if_neg ci0] at HG1;cases HG1
  rw [if_pos ci0] at HG1
  replace HG1:=Option.bind_eq_some_iff.mp HG1
  obtain ⟨s1,hJ,HG1⟩:=HG1
  have HJG:=Aside0.mk hJ
  have HGI:=Aside0.mk HG1
  have HCI:=Aside0.mk (show 0≤i∧i < l0.length from⟨ci0,ci⟩)
  have HWI:=Aside0.mk (show wrap64 (i + 1) = i + 1 by unfold wrap64;omega)
  have ci1 : decide (i < (l0.length : Int)) = true:=decide_eq_true ci
  clear HG HG1 hmi hJ ci ci0 hn
  go_wp2
  clear ci1
  go_loopg [5,32] 200 (fun kq v5 v32 wj=>∃ (j : Int) (st : List S23×Bad),v32 = .int .i64 j∧Aside0 (jGo l0 bs i kq j st = some s1)∧Aside0 (RefSt w wj w.heap.size bs wo.heap.size v5 st))
  case atStart=>exact⟨0,si,rfl,HJG,HSI⟩
  clear HJG HSI
  obtain ⟨wj,rfl⟩ : ∃ wj,wj = wr:=⟨_,rfl⟩
  obtain ⟨j,st,rfl,HG,HS⟩:=hrel
  obtain ⟨mj,hmj⟩ : ∃ mj,gk = mj + 1:=by
   cases gk with
   | zero=>exact absurd HG.out (by simp [jGo])
   | succ mj=>exact⟨mj,rfl⟩
  have HG1:=HG.out
  rw [hmj] at HG1
  unfold jGo at HG1
  have HMJ:=Aside0.mk (show mj < gk by omega)
  have hn:=HLE.out.1
  by_cases cj : j < (l0.length : Int)
  rotate_left
  ·rw [if_neg cj] at HG1
   obtain rfl:=Option.some.inj HG1
   have cj1 : decide (j < (l0.length : Int)) = false:=decide_eq_false cj
   clear HG HG1 hmj cj hn
   go_wp2
   go_roundg mi
   case measure=>exact HMI.out
   exact⟨i + 1,st,by rw [HWI.out],HGI,HS⟩
  rw [if_pos cj] at HG1
  by_cases cj0 : 0≤j∧st.1.length≤20000∧st.2.length≤20000
  case neg=>rw [if_neg cj0] at HG1;cases HG1
  rw [if_pos cj0] at HG1
  have HCJ:=Aside0.mk (show 0≤j∧j < l0.length from⟨cj0.1,cj⟩)
  have HWJ:=Aside0.mk (show wrap64 (j + 1) = j + 1 by unfold wrap64;omega)
  have HLS:=Aside0.mk cj0.2
  have HIJ:=Aside0.mk (show I64 i∧I64 j from by have:=HCI.out;exact⟨⟨by omega,by omega⟩,⟨by omega,by omega⟩⟩)
  have cj1 : decide (j < (l0.length : Int)) = true:=decide_eq_true cj
  have hbx :(wj.alloc (.cells #[.int .i64 i,.int .i64 j] 23)).heap[wj.heap.size]? = some (.cells #[.int .i64 i,.int .i64 j] 23 (0,0)):=heap_alloc_new wj _
  have HSX:=Aside0.mk (HS.out.below (bwA (Below.refl _ _) (.cells #[.int .i64 i,.int .i64 j] 23)))
  have hlk:=HSX.out.2.2.1.lookOk HIJ.out.1 HIJ.out.2
  obtain ⟨y,hy⟩ : ∃ y,y = letOf bs [i,j]:=⟨_,rfl⟩
  rw [← hy] at hlk
  cases hk : hasK bs [i,j] with
  | true =>
   rw [hk] at hlk
   have HGF:=Aside0.mk (show jGo l0 bs i mj (j + 1) st = some s1 by
    rwa [show cellStep l0 bs i j st = st from if_pos hk] at HG1)
   clear HG HG1 hmj cj cj0 hn hk hy hbx HS
   go_wp2
   go_roundg mj
   case measure=>exact HMJ.out
   exact⟨j + 1,st,by rw [HWJ.out],HGF,HSX⟩
  | false =>
   rw [hk] at hlk
   have HNC:=Aside0.mk (needs_fn.calls A0 c0 l0 i j (wj.alloc (.cells #[.int .i64 i,.int .i64 j] 23)) (Kd.C_below HR0.out HSX.out.1) HCI.out HCJ.out)
   have HBX:=Aside0.mk hbx
   have HNE0:=Aside0.mk (ref_fresh HS.out)
   have hcell : cellStep l0 bs i j st =(match needsF (rd_T39 l0 i) (rd_T39 l0 j) with | none=>(st.1 ++ [⟨i,j⟩],st.2) | some m=>abIn bs ⟨i,j⟩ m 0 st):=by
    unfold cellStep
    rw [if_neg (by rw [hk];decide)]
   rw [hcell] at HG1
   obtain ⟨nd,hnd⟩ : ∃ nd,nd = needsF (rd_T39 l0 i) (rd_T39 l0 j):=⟨_,rfl⟩
   rw [← hnd] at HG1 HNC
   cases nd with
   | none =>
    have HGF:=Aside0.mk HG1
    clear HG HG1 hmj cj cj0 hn hk hy hbx HS hnd hcell
    go_wp2_with (first
     |(go_at_call 51;go_must (
       (with_reducible refine HNC.out.mono ?_);rintro e w2 ⟨hB2,vm,rfl,hN⟩;
       have HS2:=Aside0.mk (HSX.out.below hB2);
       have hb2:=bkB HBX.out hB2;
       have he0 : w2.cell? ⟨wj.heap.size,0,none⟩ = some (.int .i64 i):=(bkC hb2 0).trans rfl;
       have he1 : w2.cell? ⟨wj.heap.size,1,none⟩ = some (.int .i64 j):=(bkC hb2 1).trans rfl;
       obtain ⟨A,c,A',c',w5,ev,hrun,hS5,hg5,hne5⟩:=ref_app HS2.out i j (by have:=HLS.out;omega);
       subst ev;
       have HRUN:=Aside0.mk hrun;
       have HS5:=Aside0.mk hS5;
       clear hB2 hN hb2 hrun hS5 hg5 hne5))
     |(at_builtin;go_must (refine wpList_appendRun _ rfl _ _ _ rfl HRUN.out rfl rfl rfl ?_)))
    go_roundg mj
    case measure=>exact HMJ.out
    exact⟨j + 1,_,by rw [HWJ.out],HGF,HS5⟩
   | some m =>
    have HGF:=Aside0.mk HG1
    have hX : ∀ a : Int,(0≤a∧a < l0.length)→I64 (rd_T39 l0 a).f1∧I64 (rd_T39 l0 a).f2:=fun a ha=>by
     have hlt : a.toNat < l0.length:=by omega
     have : rd_T39 l0 a ∈ l0:=by
      unfold rd_T39
      rw [List.getD_eq_getElem?_getD,List.getElem?_eq_getElem hlt,Option.getD_some]
      exact List.getElem_mem hlt
     exact(HAL.out _ this).2
    have HIX:=Aside0.mk (⟨hX _ HCI.out,hX _ HCJ.out⟩ :(I64 (rd_T39 l0 i).f1∧I64 (rd_T39 l0 i).f2) ∧(I64 (rd_T39 l0 j).f1∧I64 (rd_T39 l0 j).f2))
    have HND:=Aside0.mk (show m =(needsF (rd_T39 l0 i) (rd_T39 l0 j)).getD none by rw [← hnd];rfl)
    have HBL:=Aside0.mk (show wo.heap.size < (wj.alloc (.cells #[.int .i64 i,.int .i64 j] 23)).heap.size from by have:=HS.out.2.2.2.1.lt;simp;omega)
    clear HG HG1 hmj cj cj0 hn hk hy hbx HS hnd hcell hX
    go_wp2_with (first
     |(go_at_call 51;go_must (
       (with_reducible refine HNC.out.mono ?_);rintro e w2 ⟨hB2,vm,rfl,hN⟩;
       have hS2:=HSX.out.below hB2;
       have hb2:=bkB HBX.out hB2;
       obtain ⟨W2,hcv,hK2,hs2,ha2,hbb2,hty2,hBB2⟩:=conv_ab (w2.alloc (.cells #[.int .u8 97,.int .u8 98] 5)) w2.heap.size (heap_alloc_new w2 _);
       have HGB:=Aside0.mk hty2;
       have HS2:=Aside0.mk (ref_conv hS2 rfl hK2 hBB2);
       have HN2:=Aside0.mk (needs_conv (show NeedsIs m (wj.alloc (.cells #[.int .i64 i,.int .i64 j] 23)).heap.size w2 vm from hN) rfl hK2);
       have HB9:=Aside0.mk (blk_kept (bkB hb2 (bwA (Below.refl _ _) (.cells #[.int .u8 97,.int .u8 98] 5))) hK2 (by have:=blk_lt hb2;omega));
       clear hB2 hN hS2 hb2 hK2 hs2 ha2 hbb2 hty2 hBB2)))
    go_loopw [5,60] (fun v5 v60 wq=>∃ (jc : Int) (sc : List S23×Bad),v60 = .int .i64 jc∧Aside0 ((0≤jc∧jc≤2)∧abIn bs ⟨i,j⟩ m jc sc = abIn bs ⟨i,j⟩ m 0 st∧sc.1.length≤st.1.length + jc∧sc.2.length≤st.2.length + jc)∧Aside0 (RefSt w wq w.heap.size bs wo.heap.size v5 sc)∧Aside0 (NeedsIs m (wj.alloc (.cells #[.int .i64 i,.int .i64 j] 23)).heap.size wq vm)∧Aside0 (wq.heap[w2.heap.size]? = some (.cells #[.int .u8 97,.int .u8 98] 5 (2,3)))∧Aside0 (wq.heap[wj.heap.size]? = some (.cells #[.int .i64 i,.int .i64 j] 23 (0,0)))∧Aside0 (some wj.heap.size≠v5.ownBlock)) (fun _ v60 _=>2 - (intOf v60).toNat)
    case atStart=>exact⟨0,st,rfl,⟨⟨by omega,rfl,by omega,by omega⟩⟩,HS2,HN2,HGB,HB9,HNE0⟩
    obtain ⟨jc,sc,rfl,HJ,HS1,HN1,HG1,HB91,HNE1⟩:=hrel
    clear HS2 HN2 HGB HB9 HNE0 HSX
    have HS:=HS1
    have HN:=HN1
    have HGB:=HG1
    have HB9:=HB91
    have HNE:=HNE1
    clear HS1 HN1 HG1 HB91 HNE1
    obtain ⟨⟨j0,j2⟩,hin0,hs1,hs2⟩:=HJ.out
    have hm:=HND.out
    clear HJ
    have hj3 : jc = 0∨jc = 1∨jc = 2:=by omega
    have HOL:=Aside0.mk (show sc.1.length≤20002∧sc.2.length≤20002 by have:=HLS.out;omega)
    rcases hj3 with rfl | rfl | rfl
    ·-- the letter 97
     have hc : wr.cell? ⟨w2.heap.size,0,none⟩ = some (.int .u8 97):=(cell_of_row wr w2.heap.size 0 _ _ _ HGB.out).trans rfl
     have hc9 : wr.cell? ⟨wj.heap.size,0,none⟩ = some (.int .i64 i):=(bkC HB9.out 0).trans rfl
     have hc91 : wr.cell? ⟨wj.heap.size,1,none⟩ = some (.int .i64 j):=(bkC HB9.out 1).trans rfl
     have hin : abIn bs ⟨i,j⟩ m 1 (abStep bs ⟨i,j⟩ (needGet m 97) 97 sc) = abIn bs ⟨i,j⟩ m 0 st:=by rw [← hin0];rfl
     have hmo:=needs_lookOk HN.out (c:=97) (by omega)
     have HNE1:=HNE
     cases hq : needGet m 97 with
     | none =>
      have hmo' :(Instr.lookup 77 vm (.int .u8 97) true).run Try.prog wr = .ok (.tuple #[.agg #[.int .i64 0,.int .i64 0],.bool false]) wr:=by rw [hmo,hq];rfl
      rw [show abStep bs ⟨i,j⟩ (needGet m 97) 97 sc = sc by rw [hq];rfl] at hin
      have HIN:=Aside0.mk (show(0 ≤(0 : Int) + 1 ∧(0 : Int) + 1≤2)∧abIn bs ⟨i,j⟩ m (0 + 1) sc = abIn bs ⟨i,j⟩ m 0 st ∧(sc.1.length : Int)≤st.1.length + (0 + 1) ∧(sc.2.length : Int)≤st.2.length + (0 + 1) from⟨by omega,hin,by omega,by omega⟩)
      have HS1:=Aside0.mk (HS.out.below (bwA (Below.refl _ _) (.cells #[.int .i64 0,.int .i64 0] 23)))
      have HN1:=Aside0.mk (HN.out.below (bwA (Below.refl _ _) (.cells #[.int .i64 0,.int .i64 0] 23)))
      have HG1:=Aside0.mk (blk_belowf HGB.out (bwA (Below.refl _ _) (.cells #[.int .i64 0,.int .i64 0] 23)))
      have HB91:=Aside0.mk (blk_belowf HB9.out (bwA (Below.refl _ _) (.cells #[.int .i64 0,.int .i64 0] 23)))
      clear hmo hin hin0 hq hs1 hs2
      go_wp2
      go_roundw
      case rel=>exact⟨_,sc,rfl,HIN,HS1,HN1,HG1,HB91,HNE1⟩
      simp [intOf]
     | some q =>
      obtain ⟨q0,q1,rfl⟩ : ∃ q0 q1,q = [q0,q1]:=⟨_,_,needs_two _ _ _ _ (hm ▸ hq)⟩
      have hI : I64 q0∧I64 q1:=(show I64 (s23 [q0,q1]).f0∧I64 (s23 [q0,q1]).f1 from needs_I64 _ _ HIX.out.1 HIX.out.2 _ _ (hm ▸ hq))
      have hmo' :(Instr.lookup 77 vm (.int .u8 97) true).run Try.prog wr = .ok (.tuple #[.agg #[.int .i64 q0,.int .i64 q1],.bool true]) wr:=by rw [hmo,hq];rfl
      have hab : abStep bs ⟨i,j⟩ (needGet m 97) 97 sc = if letOf sc.2 [i,j] = 0∧hasK bs [q0,q1] = true then(sc.1 ++ [⟨i,j⟩],([i,j],97) :: sc.2) else sc:=by rw [hq];rfl
      have hd9 :(wr.alloc (.cells #[.int .i64 q0,.int .i64 q1] 23)).cell? ⟨wj.heap.size,0,none⟩ = some (.int .i64 i):=(bkC (bkB HB9.out (bwA (Below.refl _ _) (.cells #[.int .i64 q0,.int .i64 q1] 23))) 0).trans rfl
      have hd91 :(wr.alloc (.cells #[.int .i64 q0,.int .i64 q1] 23)).cell? ⟨wj.heap.size,1,none⟩ = some (.int .i64 j):=(bkC (bkB HB9.out (bwA (Below.refl _ _) (.cells #[.int .i64 q0,.int .i64 q1] 23))) 1).trans rfl
      have hlk:=(HS.out.2.2.2.1.below (bwA (Below.refl _ _) (.cells #[.int .i64 q0,.int .i64 q1] 23))).look HIJ.out.1 HIJ.out.2
      have hbk:=(HS.out.2.2.1.below (bwA (Below.refl _ _) (.cells #[.int .i64 q0,.int .i64 q1] 23))).lookOk hI.1 hI.2
      by_cases k1 : letOf sc.2 [i,j] = 0
      case neg =>
       rw [hab,if_neg (fun h=>k1 h.1)] at hin
       obtain ⟨x,hx⟩ : ∃ x,x = letOf sc.2 [i,j]:=⟨_,rfl⟩
       rw [← hx] at hlk k1
       have k1b :(x == 0) = false:=beq_eq_false_iff_ne.mpr k1
       have HIN:=Aside0.mk (show(0 ≤(0 : Int) + 1 ∧(0 : Int) + 1≤2)∧abIn bs ⟨i,j⟩ m (0 + 1) sc = abIn bs ⟨i,j⟩ m 0 st ∧(sc.1.length : Int)≤st.1.length + (0 + 1) ∧(sc.2.length : Int)≤st.2.length + (0 + 1) from⟨by omega,hin,by omega,by omega⟩)
       have HS1:=Aside0.mk (HS.out.below (bwA (Below.refl _ _) (.cells #[.int .i64 q0,.int .i64 q1] 23)))
       have HN1:=Aside0.mk (HN.out.below (bwA (Below.refl _ _) (.cells #[.int .i64 q0,.int .i64 q1] 23)))
       have HG1:=Aside0.mk (blk_belowf HGB.out (bwA (Below.refl _ _) (.cells #[.int .i64 q0,.int .i64 q1] 23)))
       have HB91:=Aside0.mk (blk_belowf HB9.out (bwA (Below.refl _ _) (.cells #[.int .i64 q0,.int .i64 q1] 23)))
       clear hmo hin hin0 hq hs1 hs2 hab hbk k1 hx hI
       go_wp2
       go_roundw
       case rel=>exact⟨_,sc,rfl,HIN,HS1,HN1,HG1,HB91,HNE1⟩
       simp [intOf]
      rw [k1] at hlk
      have k1b :((0 : Int) == 0) = true:=rfl
      cases k2 : hasK bs [q0,q1] with
      | false =>
       rw [hab,if_neg (fun h=>by rw [k2] at h;exact absurd h.2 (by decide))] at hin
       rw [k2] at hbk
       obtain ⟨y,hy⟩ : ∃ y,y = letOf bs [q0,q1]:=⟨_,rfl⟩
       rw [← hy] at hbk
       have HIN:=Aside0.mk (show(0 ≤(0 : Int) + 1 ∧(0 : Int) + 1≤2)∧abIn bs ⟨i,j⟩ m (0 + 1) sc = abIn bs ⟨i,j⟩ m 0 st ∧(sc.1.length : Int)≤st.1.length + (0 + 1) ∧(sc.2.length : Int)≤st.2.length + (0 + 1) from⟨by omega,hin,by omega,by omega⟩)
       have HS1:=Aside0.mk (HS.out.below (bwA (Below.refl _ _) (.cells #[.int .i64 q0,.int .i64 q1] 23)))
       have HN1:=Aside0.mk (HN.out.below (bwA (Below.refl _ _) (.cells #[.int .i64 q0,.int .i64 q1] 23)))
       have HG1:=Aside0.mk (blk_belowf HGB.out (bwA (Below.refl _ _) (.cells #[.int .i64 q0,.int .i64 q1] 23)))
       have HB91:=Aside0.mk (blk_belowf HB9.out (bwA (Below.refl _ _) (.cells #[.int .i64 q0,.int .i64 q1] 23)))
       clear hmo hin hin0 hq hs1 hs2 hab k1 k2 hy hI
       go_wp2
       go_roundw
       case rel=>exact⟨_,sc,rfl,HIN,HS1,HN1,HG1,HB91,HNE1⟩
       simp [intOf]
      | true =>
       rw [hab,if_pos ⟨k1,k2⟩] at hin
       rw [k2] at hbk
       obtain ⟨y,hy⟩ : ∃ y,y = letOf bs [q0,q1]:=⟨_,rfl⟩
       rw [← hy] at hbk
       have HIN:=Aside0.mk (show(0 ≤(0 : Int) + 1 ∧(0 : Int) + 1≤2)∧abIn bs ⟨i,j⟩ m (0 + 1) (sc.1 ++ [⟨i,j⟩],([i,j],97) :: sc.2) = abIn bs ⟨i,j⟩ m 0 st ∧((sc.1 ++ [(⟨i,j⟩ : S23)],([i,j],(97 : Int)) :: sc.2).1.length : Int)≤st.1.length + (0 + 1) ∧((sc.1 ++ [(⟨i,j⟩ : S23)],([i,j],(97 : Int)) :: sc.2).2.length : Int)≤st.2.length + (0 + 1) from⟨by omega,hin,by simp;omega,by simp;omega⟩)
       have hHS:=HS.out.below (bwA (Below.refl _ _) (.cells #[.int .i64 q0,.int .i64 q1] 23))
       have hN1:=HN.out.below (bwA (Below.refl _ _) (.cells #[.int .i64 q0,.int .i64 q1] 23))
       have hG1:=blk_belowf HGB.out (bwA (Below.refl _ _) (.cells #[.int .i64 q0,.int .i64 q1] 23))
       have hB91:=blk_belowf HB9.out (bwA (Below.refl _ _) (.cells #[.int .i64 q0,.int .i64 q1] 23))
       obtain ⟨A,c,A',c',w5,ev,hrun,hS5,hg5,hne5⟩:=ref_app hHS i j (by have:=HOL.out;omega)
       subst ev
       obtain ⟨w6,hst,hS6,hg6⟩:=ref_let hS5 i j 97 HIJ.out.1 HIJ.out.2 (by have:=HOL.out;omega)
       have hB95:=blk_grown hB91 hg5 HNE.out
       have he9 : w5.cell? ⟨wj.heap.size,0,none⟩ = some (.int .i64 i):=(bkC hB95 0).trans rfl
       have he91 : w5.cell? ⟨wj.heap.size,1,none⟩ = some (.int .i64 j):=(bkC hB95 1).trans rfl
       have HB91:=Aside0.mk (blk_grown hB95 hg6 (by intro e;exact hS5.2.2.2.1.ne hB95 (Option.some.inj e).symm))
       have hG5:=blk_keptf hG1 (grown_kept hg5) (ref_no5 hHS hG1)
       have HG1:=Aside0.mk (blk_keptf hG5 (grown_kept1 hg6) (fun e=>hS5.2.2.2.1.ne hG5 e.symm))
       have hN5:=NeedsIs.kept hN1 (grown_kept hg5) (needs_apart hN1 (fun k hk=>.inr (by obtain ⟨x,hx⟩:=own_blk hHS.2.2.2.2 hk;exact⟨x,_,_,hx⟩)))
       have HN1:=Aside0.mk (NeedsIs.kept hN5 (grown_kept1 hg6) (needs_apart hN5 (fun k hk=>.inl (by rw [hk];exact HBL.out))))
       have HNE1:=Aside0.mk (hne5 wj.heap.size (blk_lt hB91) HNE.out)
       have HS1:=Aside0.mk hS6
       simp only [World.size_alloc] at hrun
       have HRUN:=Aside0.mk hrun
       clear hmo hin hin0 hq hs1 hs2 hab k1 k2 hy hI hHS hN1 hG1 hB91 hrun hS5 hg5 hne5 hS6 hg6 hB95 hG5 hN5
       go_wp2_with (at_builtin;go_must (refine wpList_appendRun _ rfl _ _ _ rfl HRUN.out rfl rfl rfl ?_))
       go_roundw
       case rel=>exact⟨_,(sc.1 ++ [(⟨i,j⟩ : S23)],([i,j],(97 : Int)) :: sc.2),rfl,HIN,HS1,HN1,HG1,HB91,HNE1⟩
       simp [intOf]
    ·-- the letter 98
     have hc : wr.cell? ⟨w2.heap.size,1,none⟩ = some (.int .u8 98):=(cell_of_row wr w2.heap.size 1 _ _ _ HGB.out).trans rfl
     have hc9 : wr.cell? ⟨wj.heap.size,0,none⟩ = some (.int .i64 i):=(bkC HB9.out 0).trans rfl
     have hc91 : wr.cell? ⟨wj.heap.size,1,none⟩ = some (.int .i64 j):=(bkC HB9.out 1).trans rfl
     have hin : abIn bs ⟨i,j⟩ m 2 (abStep bs ⟨i,j⟩ (needGet m 98) 98 sc) = abIn bs ⟨i,j⟩ m 0 st:=by rw [← hin0];rfl
     have hmo:=needs_lookOk HN.out (c:=98) (by omega)
     have HNE1:=HNE
     cases hq : needGet m 98 with
     | none =>
      have hmo' :(Instr.lookup 77 vm (.int .u8 98) true).run Try.prog wr = .ok (.tuple #[.agg #[.int .i64 0,.int .i64 0],.bool false]) wr:=by rw [hmo,hq];rfl
      rw [show abStep bs ⟨i,j⟩ (needGet m 98) 98 sc = sc by rw [hq];rfl] at hin
      have HIN:=Aside0.mk (show(0 ≤(1 : Int) + 1 ∧(1 : Int) + 1≤2)∧abIn bs ⟨i,j⟩ m (1 + 1) sc = abIn bs ⟨i,j⟩ m 0 st ∧(sc.1.length : Int)≤st.1.length + (1 + 1) ∧(sc.2.length : Int)≤st.2.length + (1 + 1) from⟨by omega,hin,by omega,by omega⟩)
      have HS1:=Aside0.mk (HS.out.below (bwA (Below.refl _ _) (.cells #[.int .i64 0,.int .i64 0] 23)))
      have HN1:=Aside0.mk (HN.out.below (bwA (Below.refl _ _) (.cells #[.int .i64 0,.int .i64 0] 23)))
      have HG1:=Aside0.mk (blk_belowf HGB.out (bwA (Below.refl _ _) (.cells #[.int .i64 0,.int .i64 0] 23)))
      have HB91:=Aside0.mk (blk_belowf HB9.out (bwA (Below.refl _ _) (.cells #[.int .i64 0,.int .i64 0] 23)))
      clear hmo hin hin0 hq hs1 hs2
      go_wp2
      go_roundw
      case rel=>exact⟨_,sc,rfl,HIN,HS1,HN1,HG1,HB91,HNE1⟩
      simp [intOf]
     | some q =>
      obtain ⟨q0,q1,rfl⟩ : ∃ q0 q1,q = [q0,q1]:=⟨_,_,needs_two _ _ _ _ (hm ▸ hq)⟩
      have hI : I64 q0∧I64 q1:=(show I64 (s23 [q0,q1]).f0∧I64 (s23 [q0,q1]).f1 from needs_I64 _ _ HIX.out.1 HIX.out.2 _ _ (hm ▸ hq))
      have hmo' :(Instr.lookup 77 vm (.int .u8 98) true).run Try.prog wr = .ok (.tuple #[.agg #[.int .i64 q0,.int .i64 q1],.bool true]) wr:=by rw [hmo,hq];rfl
      have hab : abStep bs ⟨i,j⟩ (needGet m 98) 98 sc = if letOf sc.2 [i,j] = 0∧hasK bs [q0,q1] = true then(sc.1 ++ [⟨i,j⟩],([i,j],98) :: sc.2) else sc:=by rw [hq];rfl
      have hd9 :(wr.alloc (.cells #[.int .i64 q0,.int .i64 q1] 23)).cell? ⟨wj.heap.size,0,none⟩ = some (.int .i64 i):=(bkC (bkB HB9.out (bwA (Below.refl _ _) (.cells #[.int .i64 q0,.int .i64 q1] 23))) 0).trans rfl
      have hd91 :(wr.alloc (.cells #[.int .i64 q0,.int .i64 q1] 23)).cell? ⟨wj.heap.size,1,none⟩ = some (.int .i64 j):=(bkC (bkB HB9.out (bwA (Below.refl _ _) (.cells #[.int .i64 q0,.int .i64 q1] 23))) 1).trans rfl
      have hlk:=(HS.out.2.2.2.1.below (bwA (Below.refl _ _) (.cells #[.int .i64 q0,.int .i64 q1] 23))).look HIJ.out.1 HIJ.out.2
      have hbk:=(HS.out.2.2.1.below (bwA (Below.refl _ _) (.cells #[.int .i64 q0,.int .i64 q1] 23))).lookOk hI.1 hI.2
      by_cases k1 : letOf sc.2 [i,j] = 0
      case neg =>
       rw [hab,if_neg (fun h=>k1 h.1)] at hin
       obtain ⟨x,hx⟩ : ∃ x,x = letOf sc.2 [i,j]:=⟨_,rfl⟩
       rw [← hx] at hlk k1
       have k1b :(x == 0) = false:=beq_eq_false_iff_ne.mpr k1
       have HIN:=Aside0.mk (show(0 ≤(1 : Int) + 1 ∧(1 : Int) + 1≤2)∧abIn bs ⟨i,j⟩ m (1 + 1) sc = abIn bs ⟨i,j⟩ m 0 st ∧(sc.1.length : Int)≤st.1.length + (1 + 1) ∧(sc.2.length : Int)≤st.2.length + (1 + 1) from⟨by omega,hin,by omega,by omega⟩)
       have HS1:=Aside0.mk (HS.out.below (bwA (Below.refl _ _) (.cells #[.int .i64 q0,.int .i64 q1] 23)))
       have HN1:=Aside0.mk (HN.out.below (bwA (Below.refl _ _) (.cells #[.int .i64 q0,.int .i64 q1] 23)))
       have HG1:=Aside0.mk (blk_belowf HGB.out (bwA (Below.refl _ _) (.cells #[.int .i64 q0,.int .i64 q1] 23)))
       have HB91:=Aside0.mk (blk_belowf HB9.out (bwA (Below.refl _ _) (.cells #[.int .i64 q0,.int .i64 q1] 23)))
       clear hmo hin hin0 hq hs1 hs2 hab hbk k1 hx hI
       go_wp2
       go_roundw
       case rel=>exact⟨_,sc,rfl,HIN,HS1,HN1,HG1,HB91,HNE1⟩
       simp [intOf]
      rw [k1] at hlk
      have k1b :((0 : Int) == 0) = true:=rfl
      cases k2 : hasK bs [q0,q1] with
      | false =>
       rw [hab,if_neg (fun h=>by rw [k2] at h;exact absurd h.2 (by decide))] at hin
       rw [k2] at hbk
       obtain ⟨y,hy⟩ : ∃ y,y = letOf bs [q0,q1]:=⟨_,rfl⟩
       rw [← hy] at hbk
       have HIN:=Aside0.mk (show(0 ≤(1 : Int) + 1 ∧(1 : Int) + 1≤2)∧abIn bs ⟨i,j⟩ m (1 + 1) sc = abIn bs ⟨i,j⟩ m 0 st ∧(sc.1.length : Int)≤st.1.length + (1 + 1) ∧(sc.2.length : Int)≤st.2.length + (1 + 1) from⟨by omega,hin,by omega,by omega⟩)
       have HS1:=Aside0.mk (HS.out.below (bwA (Below.refl _ _) (.cells #[.int .i64 q0,.int .i64 q1] 23)))
       have HN1:=Aside0.mk (HN.out.below (bwA (Below.refl _ _) (.cells #[.int .i64 q0,.int .i64 q1] 23)))
       have HG1:=Aside0.mk (blk_belowf HGB.out (bwA (Below.refl _ _) (.cells #[.int .i64 q0,.int .i64 q1] 23)))
       have HB91:=Aside0.mk (blk_belowf HB9.out (bwA (Below.refl _ _) (.cells #[.int .i64 q0,.int .i64 q1] 23)))
       clear hmo hin hin0 hq hs1 hs2 hab k1 k2 hy hI
       go_wp2
       go_roundw
       case rel=>exact⟨_,sc,rfl,HIN,HS1,HN1,HG1,HB91,HNE1⟩
       simp [intOf]
      | true =>
       rw [hab,if_pos ⟨k1,k2⟩] at hin
       rw [k2] at hbk
       obtain ⟨y,hy⟩ : ∃ y,y = letOf bs [q0,q1]:=⟨_,rfl⟩
       rw [← hy] at hbk
       have HIN:=Aside0.mk (show(0 ≤(1 : Int) + 1 ∧(1 : Int) + 1≤2)∧abIn bs ⟨i,j⟩ m (1 + 1) (sc.1 ++ [⟨i,j⟩],([i,j],98) :: sc.2) = abIn bs ⟨i,j⟩ m 0 st ∧((sc.1 ++ [(⟨i,j⟩ : S23)],([i,j],(98 : Int)) :: sc.2).1.length : Int)≤st.1.length + (1 + 1) ∧((sc.1 ++ [(⟨i,j⟩ : S23)],([i,j],(98 : Int)) :: sc.2).2.length : Int)≤st.2.length + (1 + 1) from⟨by omega,hin,by simp;omega,by simp;omega⟩)
       have hHS:=HS.out.below (bwA (Below.refl _ _) (.cells #[.int .i64 q0,.int .i64 q1] 23))
       have hN1:=HN.out.below (bwA (Below.refl _ _) (.cells #[.int .i64 q0,.int .i64 q1] 23))
       have hG1:=blk_belowf HGB.out (bwA (Below.refl _ _) (.cells #[.int .i64 q0,.int .i64 q1] 23))
       have hB91:=blk_belowf HB9.out (bwA (Below.refl _ _) (.cells #[.int .i64 q0,.int .i64 q1] 23))
       obtain ⟨A,c,A',c',w5,ev,hrun,hS5,hg5,hne5⟩:=ref_app hHS i j (by have:=HOL.out;omega)
       subst ev
       obtain ⟨w6,hst,hS6,hg6⟩:=ref_let hS5 i j 98 HIJ.out.1 HIJ.out.2 (by have:=HOL.out;omega)
       have hB95:=blk_grown hB91 hg5 HNE.out
       have he9 : w5.cell? ⟨wj.heap.size,0,none⟩ = some (.int .i64 i):=(bkC hB95 0).trans rfl
       have he91 : w5.cell? ⟨wj.heap.size,1,none⟩ = some (.int .i64 j):=(bkC hB95 1).trans rfl
       have HB91:=Aside0.mk (blk_grown hB95 hg6 (by intro e;exact hS5.2.2.2.1.ne hB95 (Option.some.inj e).symm))
       have hG5:=blk_keptf hG1 (grown_kept hg5) (ref_no5 hHS hG1)
       have HG1:=Aside0.mk (blk_keptf hG5 (grown_kept1 hg6) (fun e=>hS5.2.2.2.1.ne hG5 e.symm))
       have hN5:=NeedsIs.kept hN1 (grown_kept hg5) (needs_apart hN1 (fun k hk=>.inr (by obtain ⟨x,hx⟩:=own_blk hHS.2.2.2.2 hk;exact⟨x,_,_,hx⟩)))
       have HN1:=Aside0.mk (NeedsIs.kept hN5 (grown_kept1 hg6) (needs_apart hN5 (fun k hk=>.inl (by rw [hk];exact HBL.out))))
       have HNE1:=Aside0.mk (hne5 wj.heap.size (blk_lt hB91) HNE.out)
       have HS1:=Aside0.mk hS6
       simp only [World.size_alloc] at hrun
       have HRUN:=Aside0.mk hrun
       clear hmo hin hin0 hq hs1 hs2 hab k1 k2 hy hI hHS hN1 hG1 hB91 hrun hS5 hg5 hne5 hS6 hg6 hB95 hG5 hN5
       go_wp2_with (at_builtin;go_must (refine wpList_appendRun _ rfl _ _ _ rfl HRUN.out rfl rfl rfl ?_))
       go_roundw
       case rel=>exact⟨_,(sc.1 ++ [(⟨i,j⟩ : S23)],([i,j],(98 : Int)) :: sc.2),rfl,HIN,HS1,HN1,HG1,HB91,HNE1⟩
       simp [intOf]
    have HGF2:=Aside0.mk (show jGo l0 bs i mj (j + 1) sc = some s1 by
     have : jGo l0 bs i mj (j + 1) (abIn bs ⟨i,j⟩ m 0 st) = some s1:=HGF.out
     rwa [show abIn bs ⟨i,j⟩ m 0 st = sc from hin0.symm] at this)
    clear hin0 hm hs1 hs2
    go_wp2
    go_roundg mj
    case measure=>exact HMJ.out
    exact⟨j + 1,sc,by rw [HWJ.out],HGF2,HS⟩

def t39B (x : S39) : Bool:=i64B x.f0 && (i64B x.f1 && i64B x.f2)
theorem t39B_all {t : List S39} (h : t.all t39B = true) : allI t:=fun x hx=>by
  have:=List.all_eq_true.mp h x hx
  simp only [t39B,Bool.and_eq_true] at this
  exact⟨i64B_I64 this.1,i64B_I64 this.2.1,i64B_I64 this.2.2⟩
def pathGo (t : List S39) (bad : Bad) : Nat → S23 → ByteArray → Option ByteArray
  | 0,_,_=>none
  | f + 1,p,path =>
    if letOf bad (l23 p) = 0 then some path else
    if (letOf bad (l23 p) = 97 ∨ letOf bad (l23 p) = 98) ∧ (0 ≤ p.f0 ∧ p.f0 < t.length) ∧ (0 ≤ p.f1 ∧ p.f1 < t.length) then
      match needGet ((needsF (rd_T39 t p.f0) (rd_T39 t p.f1)).getD none) (letOf bad (l23 p)) with
      | none=>none
      | some q=>pathGo t bad f (s23 q) (path ++ ⟨#[if letOf bad (l23 p) = 97 then 97 else 98]⟩)
    else none
def loops_Sub.f (k : Nat) (l0 : List S39) (a1 a2 : Int) : Option (Bool×List S23×ByteArray×Int) :=
  (loops_areNodes.f k l0 [a1,a2]).bind fun ok =>
    if ok = true then
      (if l0.all t39B = true ∧ (0 ≤ a1 ∧ a1 < l0.length) ∧ (0 ≤ a2 ∧ a2 < l0.length) ∧ l0.length ≤ 100 then
        (refGo l0 1000 true []).bind fun bad =>
          if hasK bad [a1,a2] = true then(pathGo l0 bad 1000 ⟨a1,a2⟩ (⟨#[]⟩ : ByteArray)).bind fun p=>some (false,[],p,0)
          else(relGo l0 10000 0 [⟨a1,a2⟩]).bind fun r=>some (true,r,(⟨#[]⟩ : ByteArray),0)
       else none)
    else some (false,[],(⟨#[]⟩ : ByteArray),2)
theorem loops_Sub.mono : ∀ a0 a1 a2 k,LeO (loops_Sub.f k a0 a1 a2) (loops_Sub.f (k + 1) a0 a1 a2):=by
  intro a0 a1 a2 k
  unfold loops_Sub.f
  exact LeO.bind (loops_areNodes.mono _ _ _) (fun _=>LeO.refl _)
theorem conv97 (W : World) :(convert 21 9 (.int .i32 97)).run Try.prog W = .ok (.string ⟨#[97]⟩) W:=by kernel_rfl
theorem conv98 (W : World) :(convert 21 9 (.int .i32 98)).run Try.prog W = .ok (.string ⟨#[98]⟩) W:=by kernel_rfl
theorem lit_row2 (W : World) (x y : Int) : Kd.R (Kd.int .i64) 3 (W.alloc (.cells #[.int .i64 x,.int .i64 y] 3)) W.heap.size (fun _=>True) (.slice (some ⟨W.heap.size,0,none⟩) 2 2) [x,y]:=by
  refine⟨fun k hk=>trivial,[.int .i64 x,.int .i64 y],?_,?_⟩
  · have h2 := World.ownsRow_lit (base := W.heap.size) (e := 3) (size := 1) W #[.int .i64 x, .int .i64 y] 2 (Nat.le_refl _) (by decide) (by simp)
    exact(by simpa using h2 :(W.alloc (.cells #[.int .i64 x,.int .i64 y] 3)).ownsRow W.heap.size 3 1 (.slice (some ⟨W.heap.size,0,none⟩) 2 2) 2 [.int .i64 x,.int .i64 y])
  exact Reps.one (show Kd.M (Kd.int .i64) _ _ _ x [.int .i64 x] from rfl) (Reps.one (show Kd.M (Kd.int .i64) _ _ _ y [.int .i64 y] from rfl) (Reps.none _ _))
theorem set3 {W : World} {g t : Nat} {x y z : Value} (h : W.heap[g]? = some (.cells #[x,y,z] t (0,0))) (a b c : Value) :(((W.setCell ⟨g,0,none⟩ a).setCell ⟨g,1,none⟩ b).setCell ⟨g,2,none⟩ c).heap[g]? = some (.cells #[a,b,c] t (0,0)):=by
  simpa using blk_set (blk_set (blk_set h 0 a) 1 b) 2 c
theorem set2 {W : World} {g t : Nat} {x y : Value} (h : W.heap[g]? = some (.cells #[x,y] t (0,0))) (a b : Value) :((W.setCell ⟨g,0,none⟩ a).setCell ⟨g,1,none⟩ b).heap[g]? = some (.cells #[a,b] t (0,0)):=by
  simpa using blk_set (blk_set h 0 a) 1 b
theorem mapin_set {W : World} {b : Nat} {bs : Bad} (h : MapIn W b bs) {g t i : Nat} {c : Array Value} (hg : W.heap[g]? = some (.cells c t (0,0))) (u : Value) : MapIn (W.setCell ⟨g,i,none⟩ u) b bs:=by
  obtain ⟨m,h1,h2⟩:=h
  exact⟨m,h1,h2.box hg u⟩
theorem info55s :(Try.prog.info? 55).map (·.size) = some 3:=by kernel_rfl
theorem pathGo_len (t : List S39) (bad : Bad) : ∀ (f : Nat) (p : S23) (path r : ByteArray), pathGo t bad f p path = some r → r.size ≤ path.size + f
  | 0,_,_,_,h=>by cases h
  | f + 1,p,path,r,h=>by
    unfold pathGo at h
    split at h
    · obtain rfl := Option.some.inj h
      omega
    · split at h
      · split at h
        · cases h
        · have := pathGo_len t bad f _ _ _ h
          simp [ByteArray.size_append] at this
          have e :(ByteArray.mk #[if letOf bad (l23 p) = 97 then 97 else 98]).size = 1:=rfl
          omega
      · cases h
theorem pathGo_ge (t : List S39) (bad : Bad) : ∀ (f : Nat) (p : S23) (path r : ByteArray), pathGo t bad f p path = some r → path.size ≤ r.size
  | 0,_,_,_,h=>by cases h
  | f + 1,p,path,r,h=>by
    unfold pathGo at h
    split at h
    · obtain rfl := Option.some.inj h
      omega
    · split at h
      · split at h
        · cases h
        · have := pathGo_ge t bad f _ _ _ h
          simp [ByteArray.size_append] at this
          omega
      · cases h
set_option maxHeartbeats 4000000 in
set_option maxRecDepth 100000 in
theorem loops_Sub.calls (k : Nat) (A0 : Option Addr) (c0 : Nat) (l0 : List S39) (a1 a2 : Int) (r1 : Bool) (r2 : List S23) (r3 : ByteArray) (r4 : Int) (w : World) (hr0 : Kd.C k39 w A0 l0.length l0) (hc0 : l0.length ≤ c0) (h : loops_Sub.f k l0 a1 a2 = some (r1, r2, r3, r4)) :
    Calls Try.prog 33 #[.slice A0 l0.length c0,.int .i64 a1,.int .i64 a2] w fun e w'=>∃ v1_ : Value,e = .returned (.tuple #[.agg #[.bool r1,v1_,.string r3],.int .i64 r4])∧Kd.R k23 23 w' w.heap.size (fun _=>True) v1_ r2∧Below w.heap.size w w':=by
  unfold loops_Sub.f at h
  replace h:=Option.bind_eq_some_iff.mp h
  obtain ⟨ok,hok,h⟩:=h
  obtain ⟨W0,hW0⟩ : ∃ W0,W0 =(w.alloc (.cells #[.bool false,.slice none 0 0,.string ⟨#[]⟩] 55)).alloc (.cells #[.int .i64 a1,.int .i64 a2] 3):=⟨_,rfl⟩
  have hBW : Below w.heap.size w W0:=by rw [hW0];exact bwA (bwA (Below.refl _ _) _) _
  have hg6 : W0.heap[w.heap.size]? = some (.cells #[.bool false,.slice none 0 0,.string ⟨#[]⟩] 55 (0,0)):=by rw [hW0];exact bkB (heap_alloc_new w _) (bwA (Below.refl _ _) _)
  have hcl : Kd.C (Kd.int .i64) W0 (some ⟨w.heap.size + 1,0,none⟩) [a1,a2].length [a1,a2]:=by
    have:=(Kd.R_reads' (lit_row2 (w.alloc (.cells #[.bool false,.slice none 0 0,.string ⟨#[]⟩] 55)) a1 a2)).2.2
    rw [hW0]
    simpa using this
  have HN:=Aside0.mk (show Calls Try.prog 40 #[.slice A0 l0.length c0,.slice (some ⟨w.heap.size + 1,0,none⟩) 2 2] W0 (fun e w'=>e = .returned (.bool ok)∧Below W0.heap.size W0 w') from loops_areNodes.calls k A0 c0 l0 (some ⟨w.heap.size + 1,0,none⟩) 2 [a1,a2] ok W0 (Kd.C_below hr0 hBW) hc0 hcl (by simp) hok)
  have HBW:=Aside0.mk hBW
  have HG6:=Aside0.mk hg6
  have HR0:=Aside0.mk hr0
  have HC0:=Aside0.mk hc0
  subst hW0
  clear hBW hg6 hcl hok hr0 hc0
  cases ok with
  | false =>
    rw [if_neg (by decide)] at h
    injection h with h
    injection h with e1 h
    injection h with e2 h
    injection h with e3 e4
    subst e1;subst e2;subst e3;subst e4
    go_enter Try.func33,Try.ntmps33
    go_wp2_with (go_at_call 40;go_must (
      (with_reducible refine HN.out.mono ?_);rintro e w1 ⟨rfl,hB1⟩;
      have HB1:=Aside0.mk hB1;
      have hg1:=bkB HG6.out hB1;
      have hf0:=bkF hg1 0;
      have hf1:=bkF hg1 1;
      have hf2:=bkF hg1 2;
      have hc0 : w1.cell? ⟨w.heap.size,0,none⟩ = some (.bool false):=(bkC hg1 0).trans rfl;
      have hc1 : w1.cell? ⟨w.heap.size,1,none⟩ = some (.slice none 0 0):=(bkC hg1 1).trans rfl;
      have hc2 : w1.cell? ⟨w.heap.size,2,none⟩ = some (.string ⟨#[]⟩):=(bkC hg1 2).trans rfl;
      have HG1:=Aside0.mk hg1;
      clear hB1 hg1))
    refine bodyPost_ret (results_ct rfl _ _ w.heap.size 55 #[.bool false,.slice none 0 0,.string ⟨#[]⟩] (0,0) _ rfl (set3 HG1.out _ _ _) Try.underlying55 rfl info55s) rfl ⟨_,rfl,Kd.R_nil _ _ _ _ _,?_⟩
    exact((((below_then HBW.out HBW.out.size HB1.out).setCell (Nat.le_refl _) _).setCell (Nat.le_refl _) _).setCell (Nat.le_refl _) _)
  | true =>
    rw [if_pos rfl] at h
    by_cases c1 : l0.all t39B = true ∧(0≤a1∧a1 < l0.length) ∧(0≤a2∧a2 < l0.length)∧l0.length≤100
    case neg=>rw [if_neg c1] at h;cases h
    rw [if_pos c1] at h
    obtain ⟨d1,d2,d3,d4⟩:=c1
    replace h:=Option.bind_eq_some_iff.mp h
    obtain ⟨bad,hbad,h⟩:=h
    have HIA:=Aside0.mk (show I64 a1∧I64 a2 from⟨⟨by omega,by omega⟩,⟨by omega,by omega⟩⟩)
    have HRF:=Aside0.mk (fun(W : World) (hB : Below w.heap.size w W)=>refuse_fn.calls A0 c0 l0 (t39B_all d1) bad W (Kd.C_below HR0.out hB) hbad)
    obtain ⟨y,hy⟩ : ∃ y,y = letOf bad [a1,a2]:=⟨_,rfl⟩
    cases hk : hasK bad [a1,a2] with
    | false =>
      rw [if_neg (by rw [hk];decide)] at h
      replace h:=Option.bind_eq_some_iff.mp h
      obtain ⟨rr,hrr,h⟩:=h
      injection h with h
      injection h with e1 h
      injection h with e2 h
      injection h with e3 e4
      subst e1;subst e2;subst e3;subst e4
      have HRL:=Aside0.mk (fun(W : World) (hB : Below w.heap.size w W)=>(show Calls Try.prog 50 #[.slice A0 l0.length c0,.agg #[.int .i64 a1,.int .i64 a2]] W (fun e w'=>∃ v,e = .returned v∧Kd.R k23 23 w' W.heap.size (fun _=>True) v rr∧Below W.heap.size W w') from relation_fn.calls A0 c0 l0 (t39B_all d1) ⟨a1,a2⟩ rr W (Kd.C_below HR0.out hB) ⟨d2,d3⟩ hrr))
      have HY:=Aside0.mk hy
      have HK:=Aside0.mk hk
      clear d1 d2 d3 d4 hbad hk hrr hy
      go_enter Try.func33,Try.ntmps33
      go_wp2_with (first
        |(go_at_call 40;go_must (
            (with_reducible refine HN.out.mono ?_);rintro e w1 ⟨rfl,hB1⟩;
            have HB1:=Aside0.mk (below_then HBW.out HBW.out.size hB1);
            have HG1:=Aside0.mk (bkB HG6.out hB1);
            clear hB1))
        |(go_at_call 48;go_must (
            (with_reducible refine(HRF.out _ HB1.out).mono ?_);rintro e w2 ⟨b,rfl,hM2,hB2⟩;
            have HB2:=Aside0.mk (bwA (below_then HB1.out HB1.out.size hB2) (.cells #[.int .i64 a1,.int .i64 a2] 23));
            have HG2:=Aside0.mk (bkB (bkB HG1.out hB2) (bwA (Below.refl _ _) (.cells #[.int .i64 a1,.int .i64 a2] 23)));
            have hlk:=(hM2.below (bwA (Below.refl _ _) (.cells #[.int .i64 a1,.int .i64 a2] 23))).lookOk HIA.out.1 HIA.out.2;
            rw [HK.out,← HY.out] at hlk;
            clear hM2 hB2))
        |(go_at_call 50;go_must (
            (with_reducible refine(HRL.out _ HB2.out).mono ?_);rintro e w4 ⟨v,rfl,hR4,hB4⟩;
            obtain ⟨A4,c4,e4⟩:=Kd.R_slice hR4;subst e4;
            have hg4:=bkB HG2.out hB4;
            have hf0:=bkF hg4 0;
            have hf1:=bkF hg4 1;
            have hf2:=bkF hg4 2;
            have hc0 : w4.cell? ⟨w.heap.size,0,none⟩ = some (.bool false):=(bkC hg4 0).trans rfl;
            have hc1 : w4.cell? ⟨w.heap.size,1,none⟩ = some (.slice none 0 0):=(bkC hg4 1).trans rfl;
            have hc2 : w4.cell? ⟨w.heap.size,2,none⟩ = some (.string ⟨#[]⟩):=(bkC hg4 2).trans rfl;
            have HR4:=Aside0.mk (Kd.R_lower hR4 HB2.out.size);
            have HB4:=Aside0.mk (below_then HB2.out HB2.out.size hB4);
            have HG4:=Aside0.mk hg4;
            clear hR4 hB4 hg4)))
      refine bodyPost_ret (results_ct rfl _ _ w.heap.size 55 #[.bool true,.slice A4 rr.length c4,.string ⟨#[]⟩] (0,0) _ rfl (set3 HG4.out _ _ _) Try.underlying55 rfl info55s) rfl ⟨_,rfl,?_,?_⟩
      · exact Kd.R_set (Kd.R_set (Kd.R_set HR4.out HG4.out (by decide) 0 _) (blk_set HG4.out 0 _) (by decide) 1 _) (blk_set (blk_set HG4.out 0 _) 1 _) (by decide) 2 _
      exact(((HB4.out.setCell (Nat.le_refl _) _).setCell (Nat.le_refl _) _).setCell (Nat.le_refl _) _)
    | true =>
      rw [if_pos hk] at h
      replace h:=Option.bind_eq_some_iff.mp h
      obtain ⟨pp,hpp,h⟩:=h
      injection h with h
      injection h with e1 h
      injection h with e2 h
      injection h with e3 e4
      subst e1;subst e2;subst e3;subst e4
      have HPP:=Aside0.mk hpp
      have HPL:=Aside0.mk (show pp.size≤1000 by have:=pathGo_len _ _ _ _ _ _ hpp;have e :(⟨#[]⟩ : ByteArray).size = 0:=rfl;omega)
      have HR12:=Aside0.mk (show(0≤a1∧a1 < 1000) ∧(0≤a2∧a2 < 1000) by omega)
      have HLN:=Aside0.mk d4
      have HAL:=Aside0.mk (t39B_all d1)
      have HY:=Aside0.mk hy
      have HK:=Aside0.mk hk
      clear d1 d2 d3 d4 hbad hk hpp hy
      go_enter Try.func33,Try.ntmps33
      go_wp2_with (first
        |(go_at_call 40;go_must (
            (with_reducible refine HN.out.mono ?_);rintro e w1 ⟨rfl,hB1⟩;
            have HB1:=Aside0.mk (below_then HBW.out HBW.out.size hB1);
            have HG1:=Aside0.mk (bkB HG6.out hB1);
            clear hB1))
        |(go_at_call 48;go_must (
            (with_reducible refine(HRF.out _ HB1.out).mono ?_);rintro e w2 ⟨b,rfl,hM2,hB2⟩;
            have HB2:=Aside0.mk (bwA (below_then HB1.out HB1.out.size hB2) (.cells #[.int .i64 a1,.int .i64 a2] 23));
            have HG2:=Aside0.mk (bkB (bkB HG1.out hB2) (bwA (Below.refl _ _) (.cells #[.int .i64 a1,.int .i64 a2] 23)));
            have HM2:=Aside0.mk (hM2.below (bwA (Below.refl _ _) (.cells #[.int .i64 a1,.int .i64 a2] 23)));
            have HZ2:=Aside0.mk (show w.heap.size < w2.heap.size from blk_lt (bkB HG1.out hB2));
            have hlk:=HM2.out.lookOk HIA.out.1 HIA.out.2;
            rw [HK.out,← HY.out] at hlk;
            clear hM2 hB2)))
      clear hlk
      go_loopg [12] 1000 (fun kq v12 wr=>∃ (p : S23) (path : ByteArray),v12 = .string path∧Aside0 (pathGo l0 bad kq p path = some pp)∧Aside0 (I64 p.f0∧I64 p.f1)∧Aside0 (MapIn wr b bad)∧Aside0 (wr.heap[w2.heap.size]? = some (.cells #[.int .i64 p.f0,.int .i64 p.f1] 23 (0,0)))∧Aside0 (wr.heap[w.heap.size]? = some (.cells #[.bool false,.slice none 0 0,.string ⟨#[]⟩] 55 (0,0)))∧Aside0 (Below w.heap.size w wr))
      case atStart=>exact⟨⟨a1,a2⟩,⟨#[]⟩,rfl,HPP,HIA,HM2,⟨heap_alloc_new w2 _⟩,HG2,HB2⟩
      clear HPP HM2 HG2 HB2 HK HY
      obtain ⟨p,path,rfl,HP,HRP,HM,H9,H6,HB⟩:=hrel
      obtain ⟨m,hm1⟩ : ∃ m,gk = m + 1:=by
        cases gk with
        | zero=>exact absurd HP.out (by simp [pathGo])
        | succ m=>exact⟨m,rfl⟩
      have HG1:=HP.out
      rw [hm1] at HG1
      unfold pathGo at HG1
      have HMM:=Aside0.mk (show m < gk by omega)
      have hIp:=HRP.out
      have c90 : wr.cell? ⟨w2.heap.size,0,none⟩ = some (.int .i64 p.f0):=(bkC H9.out 0).trans rfl
      have c91 : wr.cell? ⟨w2.heap.size,1,none⟩ = some (.int .i64 p.f1):=(bkC H9.out 1).trans rfl
      clear HP hm1 HRP
      by_cases cz : letOf bad (l23 p) = 0
      · rw [if_pos cz] at HG1
        obtain rfl:=Option.some.inj HG1
        have hlk :(Instr.lookup 72 (.map (some b)) (.agg #[.int .i64 p.f0,.int .i64 p.f1]) false).run Try.prog wr = .ok (.int .u8 0) wr:=by have:=HM.out.look hIp.1 hIp.2;rwa [show letOf bad [p.f0,p.f1] = 0 from cz] at this
        have hf0:=bkF H6.out 0
        have hf1:=bkF H6.out 1
        have hf2:=bkF H6.out 2
        have hc0 : wr.cell? ⟨w.heap.size,0,none⟩ = some (.bool false):=(bkC H6.out 0).trans rfl
        have hc1 : wr.cell? ⟨w.heap.size,1,none⟩ = some (.slice none 0 0):=(bkC H6.out 1).trans rfl
        have hc2 : wr.cell? ⟨w.heap.size,2,none⟩ = some (.string ⟨#[]⟩):=(bkC H6.out 2).trans rfl
        clear HG1 cz hIp
        go_wp2
        refine bodyPost_ret (results_ct rfl _ _ w.heap.size 55 #[.bool false,.slice none 0 0,.string path] (0,0) _ rfl (set3 H6.out _ _ _) Try.underlying55 rfl info55s) rfl ⟨_,rfl,Kd.R_nil _ _ _ _ _,?_⟩
        exact(((HB.out.setCell (Nat.le_refl _) _).setCell (Nat.le_refl _) _).setCell (Nat.le_refl _) _)
      rw [if_neg cz] at HG1
      split at HG1
      case isFalse=>cases HG1
      rename_i hcc
      obtain ⟨hce,hb0,hb1⟩:=hcc
      split at HG1
      case h_1=>cases HG1
      rename_i q hq
      obtain ⟨q0,q1,rfl⟩ : ∃ q0 q1,q = [q0,q1]:=⟨_,_,needs_two _ _ _ _ hq⟩
      have hX : ∀ a : Int,(0≤a∧a < l0.length)→I64 (rd_T39 l0 a).f1∧I64 (rd_T39 l0 a).f2:=fun a ha=>by
        have hlt : a.toNat < l0.length:=by omega
        have : rd_T39 l0 a ∈ l0:=by
          unfold rd_T39
          rw [List.getD_eq_getElem?_getD,List.getElem?_eq_getElem hlt,Option.getD_some]
          exact List.getElem_mem hlt
        exact(HAL.out _ this).2
      have hiq : I64 (s23 [q0,q1]).f0∧I64 (s23 [q0,q1]).f1:=needs_I64 _ _ (hX _ hb0) (hX _ hb1) _ _ hq
      clear hX
      have hcc:=hce
      rcases hce with hce | hce
      · skip
        have hlk2 : ∀ W,MapIn W b bad →(Instr.lookup 72 (.map (some b)) (.agg #[.int .i64 p.f0,.int .i64 p.f1]) false).run Try.prog W = .ok (.int .u8 97) W:=fun W hW=>by have:=hW.look hIp.1 hIp.2;rwa [show letOf bad [p.f0,p.f1] = 97 from hce] at this
        have hcv:=conv97
        have hpth : pathGo l0 bad m (s23 [q0,q1]) (path ++ ⟨#[97]⟩) = some pp:=by
          rw [hce] at HG1
          simpa using HG1
        have HPS:=Aside0.mk (show((path.size + 1 : Nat) : Int)≤9223372036854775807 by have h1:=pathGo_ge _ _ _ _ _ _ hpth;have h2:=HPL.out;simp only [ByteArray.size_append] at h1;omega)
        have hadd :(Op.stringOp .add path ⟨#[97]⟩).run Try.prog wr = .ok (.string (path ++ ⟨#[97]⟩)) wr:=by
          have h1 : ¬ (((path.size + (ByteArray.mk #[97]).size : Nat) : Int) > IntKind.i64.max):=by
            have e1 :(ByteArray.mk #[97]).size = 1:=rfl
            have e2 : IntKind.i64.max = 9223372036854775807:=rfl
            have:=HPS.out
            rw [e1,e2]
            omega
          unfold Op.stringOp
          simp only [h1,if_false]
          rfl
        have hlk:=hlk2 wr HM.out
        have HPT:=Aside0.mk hpth
        have HL3:=Aside0.mk (fun(W : World) (hW : MapIn W b bad)=>hlk2 W hW)
        have HNC:=Aside0.mk (needs_fn.calls A0 c0 l0 p.f0 p.f1 wr (Kd.C_below HR0.out HB.out) hb0 hb1)
        have HQ:=Aside0.mk hq
        have HGB:=Aside0.mk (show ∀ (W : World) (v : Value),NeedsIs ((needsF (rd_T39 l0 p.f0) (rd_T39 l0 p.f1)).getD none) wr.heap.size W v →(Instr.lookup 77 v (.int .u8 97) false).run Try.prog W = .ok (.agg #[.int .i64 q0,.int .i64 q1]) W from fun W v hv=>by
          have:=needs_look hv (c:=97) (by omega)
          rw [hce] at hq
          rw [hq] at this
          exact this)
        have HIQ:=Aside0.mk hiq
        clear HG1 hce hlk2 hq hb0 hb1 hpth hIp hiq cz hcc
        go_wp2_with (go_at_call 51;go_must (
          (with_reducible refine HNC.out.mono ?_);rintro e w3 ⟨hB3,vm,rfl,hN⟩;
          have hM3:=HM.out.below hB3;
          have hb3:=bkB H9.out hB3;
          have hg3:=bkB H6.out hB3;
          have hlk3:=HL3.out w3 hM3;
          have hgb3:=HGB.out w3 vm hN;
          have d0 : w3.cell? ⟨w2.heap.size,0,none⟩ = some (.int .i64 p.f0):=(bkC hb3 0).trans rfl;
          have d1 : w3.cell? ⟨w2.heap.size,1,none⟩ = some (.int .i64 p.f1):=(bkC hb3 1).trans rfl;
          have g0:=bkF hb3 0;
          have g1:=bkF hb3 1;
          have HM4:=Aside0.mk (mapin_set (mapin_set hM3 hb3 (i:=0) (.int .i64 q0)) (blk_set hb3 0 (.int .i64 q0)) (i:=1) (.int .i64 q1));
          have H94:=Aside0.mk (set2 hb3 (.int .i64 q0) (.int .i64 q1));
          have H64:=Aside0.mk (blk_far (blk_far hg3 (p:=⟨w2.heap.size,0,none⟩) (Nat.ne_of_lt HZ2.out) (.int .i64 q0)) (p:=⟨w2.heap.size,1,none⟩) (Nat.ne_of_lt HZ2.out) (.int .i64 q1));
          have HB4:=Aside0.mk (((below_then HB.out HB.out.size hB3).setCell (p:=⟨w2.heap.size,0,none⟩) (Nat.le_of_lt HZ2.out) (.int .i64 q0)).setCell (p:=⟨w2.heap.size,1,none⟩) (Nat.le_of_lt HZ2.out) (.int .i64 q1));
          clear hB3 hN hM3 hb3 hg3))
        go_roundg m
        case measure=>exact HMM.out
        case rel=>exact⟨s23 [q0,q1],path ++ ⟨#[97]⟩,rfl,HPT,HIQ,HM4,H94,H64,HB4⟩
      skip
      have hlk2 : ∀ W,MapIn W b bad →(Instr.lookup 72 (.map (some b)) (.agg #[.int .i64 p.f0,.int .i64 p.f1]) false).run Try.prog W = .ok (.int .u8 98) W:=fun W hW=>by have:=hW.look hIp.1 hIp.2;rwa [show letOf bad [p.f0,p.f1] = 98 from hce] at this
      have hcv:=conv98
      have hpth : pathGo l0 bad m (s23 [q0,q1]) (path ++ ⟨#[98]⟩) = some pp:=by
        rw [hce] at HG1
        simpa using HG1
      have HPS:=Aside0.mk (show((path.size + 1 : Nat) : Int)≤9223372036854775807 by have h1:=pathGo_ge _ _ _ _ _ _ hpth;have h2:=HPL.out;simp only [ByteArray.size_append] at h1;omega)
      have hadd :(Op.stringOp .add path ⟨#[98]⟩).run Try.prog wr = .ok (.string (path ++ ⟨#[98]⟩)) wr:=by
        have h1 : ¬ (((path.size + (ByteArray.mk #[98]).size : Nat) : Int) > IntKind.i64.max):=by
          have e1 :(ByteArray.mk #[98]).size = 1:=rfl
          have e2 : IntKind.i64.max = 9223372036854775807:=rfl
          have:=HPS.out
          rw [e1,e2]
          omega
        unfold Op.stringOp
        simp only [h1,if_false]
        rfl
      have hlk:=hlk2 wr HM.out
      have HPT:=Aside0.mk hpth
      have HL3:=Aside0.mk (fun(W : World) (hW : MapIn W b bad)=>hlk2 W hW)
      have HNC:=Aside0.mk (needs_fn.calls A0 c0 l0 p.f0 p.f1 wr (Kd.C_below HR0.out HB.out) hb0 hb1)
      have HQ:=Aside0.mk hq
      have HGB:=Aside0.mk (show ∀ (W : World) (v : Value),NeedsIs ((needsF (rd_T39 l0 p.f0) (rd_T39 l0 p.f1)).getD none) wr.heap.size W v →(Instr.lookup 77 v (.int .u8 98) false).run Try.prog W = .ok (.agg #[.int .i64 q0,.int .i64 q1]) W from fun W v hv=>by
        have:=needs_look hv (c:=98) (by omega)
        rw [hce] at hq
        rw [hq] at this
        exact this)
      have HIQ:=Aside0.mk hiq
      clear HG1 hce hlk2 hq hb0 hb1 hpth hIp hiq cz hcc
      go_wp2_with (go_at_call 51;go_must (
        (with_reducible refine HNC.out.mono ?_);rintro e w3 ⟨hB3,vm,rfl,hN⟩;
        have hM3:=HM.out.below hB3;
        have hb3:=bkB H9.out hB3;
        have hg3:=bkB H6.out hB3;
        have hlk3:=HL3.out w3 hM3;
        have hgb3:=HGB.out w3 vm hN;
        have d0 : w3.cell? ⟨w2.heap.size,0,none⟩ = some (.int .i64 p.f0):=(bkC hb3 0).trans rfl;
        have d1 : w3.cell? ⟨w2.heap.size,1,none⟩ = some (.int .i64 p.f1):=(bkC hb3 1).trans rfl;
        have g0:=bkF hb3 0;
        have g1:=bkF hb3 1;
        have HM4:=Aside0.mk (mapin_set (mapin_set hM3 hb3 (i:=0) (.int .i64 q0)) (blk_set hb3 0 (.int .i64 q0)) (i:=1) (.int .i64 q1));
        have H94:=Aside0.mk (set2 hb3 (.int .i64 q0) (.int .i64 q1));
        have H64:=Aside0.mk (blk_far (blk_far hg3 (p:=⟨w2.heap.size,0,none⟩) (Nat.ne_of_lt HZ2.out) (.int .i64 q0)) (p:=⟨w2.heap.size,1,none⟩) (Nat.ne_of_lt HZ2.out) (.int .i64 q1));
        have HB4:=Aside0.mk (((below_then HB.out HB.out.size hB3).setCell (p:=⟨w2.heap.size,0,none⟩) (Nat.le_of_lt HZ2.out) (.int .i64 q0)).setCell (p:=⟨w2.heap.size,1,none⟩) (Nat.le_of_lt HZ2.out) (.int .i64 q1));
        clear hB3 hN hM3 hb3 hg3))
      go_roundg m
      case measure=>exact HMM.out
      exact⟨s23 [q0,q1],path ++ ⟨#[98]⟩,rfl,HPT,HIQ,HM4,H94,H64,HB4⟩

abbrev SL:=List (Int×Int)
def stM (sl : SL) : Int→Option Value:=fun x=>(sl.lookup x).map (.int .i64)
def stOf (sl : SL) (x : Int) : Int:=(sl.lookup x).getD 0
def visF (t : List S39) : Nat → Int → SL → Option (Bool × SL)
  | 0,_,_=>none
  | f + 1,i,sl =>
    if stOf sl i > 0 then some (stOf sl i == 1,sl)
    else if (0 ≤ i ∧ i < t.length) ∧ sl.length ≤ 999999 then
      if (rd_T39 t i).f0 = 4 ∨ (rd_T39 t i).f0 = 5 then
        (visF t f (rd_T39 t i).f1 ((i,1) :: sl)).bind fun a =>
          if a.2.length ≤ 1000000 then
            (if a.1 = true then some (true, (i, 2) :: a.2)
             else(visF t f (rd_T39 t i).f2 a.2).bind fun b=>if b.2.length≤1000000 then some (b.1,(i,2) :: b.2) else none)
          else none
      else some (false,(i,2) ::(i,1) :: sl)
    else none
def loops_onCycle.f (l0 : List S39) (a1 : Int) : Option Bool:=if l0.length≤1000∧i64B a1 = true∧l0.all (fun x=>i64B x.f1 && i64B x.f2) = true then(visF l0 100 a1 []).bind fun a=>some a.1 else none
theorem stM_put {sl : SL} {x c : Int} : encI (stM ((x,c) :: sl)) (.int .i64 x) = some (.int .i64 c):=by simp [encI,stM]
theorem stM_far {sl : SL} {x c : Int} : ∀ v,v≠.int .i64 x→encI (stM ((x,c) :: sl)) v = encI (stM sl) v:=by
  intro v hv
  unfold encI
  split
  · rename_i y
    have : y≠x:=fun e=>hv (by rw [e])
    have hb :(y == x) = false:=by simpa using this
    simp [stM,List.lookup_cons,hb]
  rfl
def MapS (W : World) (b : Nat) (sl : SL) : Prop:=∃ m,m≤sl.length∧MapAt W Try.prog 3 b m (encI (stM sl))
theorem MapS.below {W W' : World} {b : Nat} {sl : SL} (h : MapS W b sl) (hB : Below W.heap.size W W') : MapS W' b sl:=by
  obtain ⟨m,h1,h2⟩:=h
  exact⟨m,h1,h2.below hB⟩
theorem MapS.ne {W : World} {b : Nat} {sl : SL} (h : MapS W b sl) {g : Nat} {cs : Array Value} {t : TypeId} {fr : Nat×Nat} (hg : W.heap[g]? = some (.cells cs t fr)) : b≠g:=by
  obtain ⟨m,h1,h2⟩:=h
  exact h2.ne hg
theorem MapS.look {W : World} {b : Nat} {sl : SL} (h : MapS W b sl) {x : Int} (hx : I64 x) :(Instr.lookup 100 (.map (some b)) (.int .i64 x) false).run Try.prog W = .ok (.int .i64 (stOf sl x)) W:=by
  obtain ⟨m,h1,h2⟩:=h
  rw [h2.look law3 Try.underlying100 (nb_zero _) (key3 hx)]
  have e : encI (stM sl) (.int .i64 x) = stM sl x:=rfl
  rw [e]
  unfold stM stOf
  cases sl.lookup x <;> rfl
theorem MapS.store {W : World} {b : Nat} {sl : SL} (h : MapS W b sl) {x : Int} (c : Int) (hx : I64 x) (hl : sl.length ≤ 1000000) :
    ∃ w',(Instr.mapUpdate 100 (.map (some b)) (.int .i64 x) (.int .i64 c)).run Try.prog W = .ok () w'∧MapS w' b ((x,c) :: sl)∧W.grownBy w' (some b):=by
  obtain ⟨m,h1,h2⟩:=h
  obtain ⟨w',r1,r2,r3⟩:=h2.store law3 Try.underlying100 (by unfold maxLen;omega) (key3 hx) (val:=.int .i64 c) (f':=encI (stM ((x,c) :: sl))) (stM_put (sl:=sl)) (stM_far (sl:=sl))
  refine⟨w',r1,⟨_,?_,r2⟩,r3⟩
  simp
  split <;> omega
/-- The closure's memory: the map's box, the types' box, its own box. -/
def CycSt (A0 : Option Addr) (c0 n : Nat) (gs gt gv b : Nat) (wc W : World) (sl : SL) : Prop :=
  Below wc.heap.size wc W∧wc.heap.size≤b∧W.heap[gs]? = some (.cells #[.map (some b)] 100 (0,0))∧W.heap[gt]? = some (.cells #[.slice A0 n c0] 22 (0,0))∧W.heap[gv]? = some (.cells #[.func (.func 65) #[] #[.pointer (some ⟨gs,0,none⟩),.pointer (some ⟨gt,0,none⟩),.pointer (some ⟨gv,0,none⟩)]] 95 (0,0))∧MapS W b sl
theorem CycSt.below {A0 : Option Addr} {c0 n gs gt gv b : Nat} {wc W W' : World} {sl : SL} (h : CycSt A0 c0 n gs gt gv b wc W sl) (hB : Below W.heap.size W W') : CycSt A0 c0 n gs gt gv b wc W' sl:=by
  obtain ⟨h1,h2,h3,h4,h5,h6⟩:=h
  exact⟨below_then h1 h1.size hB,h2,bkB h3 hB,bkB h4 hB,bkB h5 hB,h6.below hB⟩
theorem CycSt.store {A0 : Option Addr} {c0 n gs gt gv b : Nat} {wc W : World} {sl : SL} (h : CycSt A0 c0 n gs gt gv b wc W sl) {x : Int} (c : Int) (hx : I64 x) (hl : sl.length ≤ 1000000) :
    ∃ w',(Instr.mapUpdate 100 (.map (some b)) (.int .i64 x) (.int .i64 c)).run Try.prog W = .ok () w'∧CycSt A0 c0 n gs gt gv b wc w' ((x,c) :: sl):=by
  obtain ⟨h1,h2,h3,h4,h5,h6⟩:=h
  obtain ⟨w',r1,r2,r3⟩:=h6.store c hx hl
  refine⟨w',r1,Below.grown h1 r3 h1.size (fun k hk=>by injection hk with hk;omega),h2,?_,?_,?_,r2⟩
  · exact blk_grown h3 r3 (fun e=>h6.ne h3 (Option.some.inj e).symm)
  · exact blk_grown h4 r3 (fun e=>h6.ne h4 (Option.some.inj e).symm)
  exact blk_grown h5 r3 (fun e=>h6.ne h5 (Option.some.inj e).symm)
set_option maxHeartbeats 4000000 in
set_option maxRecDepth 100000 in
theorem visit_fn.calls (l0 : List S39) (A0 : Option Addr) (c0 gs gt gv b : Nat) (wc : World) (hr0 : Kd.C k39 wc A0 l0.length l0) (hall : ∀ x ∈ l0, I64 x.f1 ∧ I64 x.f2) (f : Nat) : ∀ (i : Int) (sl : SL) (r : Bool) (sl' : SL) (W : World)
    (hS : CycSt A0 c0 l0.length gs gt gv b wc W sl) (hi : I64 i) (h : visF l0 f i sl = some (r,sl')),
    Calls Try.prog 65 #[.int .i64 i,.pointer (some ⟨gs,0,none⟩),.pointer (some ⟨gt,0,none⟩),.pointer (some ⟨gv,0,none⟩)] W fun e w'=>e = .returned (.bool r)∧CycSt A0 c0 l0.length gs gt gv b wc w' sl':=by
  induction f with
  | zero=>intro i sl r sl' W hS hi h;cases h
  | succ f ih =>
    intro i sl r sl' W hS hi h
    unfold visF at h
    have HS:=Aside0.mk hS
    have cs : W.cell? ⟨gs,0,none⟩ = some (.map (some b)):=(bkC hS.2.2.1 0).trans rfl
    have hlk:=hS.2.2.2.2.2.look hi
    by_cases c1 : stOf sl i > 0
    · rw [if_pos c1] at h
      injection h with h
      injection h with e1 e2
      subst e1;subst e2
      obtain ⟨y,hy⟩ : ∃ y,y = stOf sl i:=⟨_,rfl⟩
      rw [← hy] at hlk c1 ⊢
      have c1b : decide (0 < y) = true:=decide_eq_true c1
      cases hz :(y == 1) with
      | true =>
        clear ih hS hi c1 hy
        go_enter Try.func65,Try.ntmps65
        go_wp2
        go_ret
        exact⟨rfl,HS.out⟩
      | false =>
        clear ih hS hi c1 hy
        go_enter Try.func65,Try.ntmps65
        go_wp2
        go_ret
        exact⟨rfl,HS.out⟩
    rw [if_neg c1] at h
    by_cases c2 :(0≤i∧i < l0.length)∧sl.length≤999999
    case neg=>rw [if_neg c2] at h;cases h
    rw [if_pos c2] at h
    obtain ⟨w1,hst,hS1⟩:=hS.store 1 hi (by omega)
    obtain ⟨y,hy⟩ : ∃ y,y = stOf sl i:=⟨_,rfl⟩
    rw [← hy] at hlk c1
    have c1b : decide (0 < y) = false:=decide_eq_false (by omega)
    obtain ⟨adt,eat,hx0,hx1,hx2⟩:=at_T39 (Kd.C_below hr0 hS1.1) i c2.1.1 c2.1.2
    subst eat
    have hXm : rd_T39 l0 i ∈ l0:=by
      have hlt : i.toNat < l0.length:=by omega
      unfold rd_T39
      rw [List.getD_eq_getElem?_getD,List.getElem?_eq_getElem hlt,Option.getD_some]
      exact List.getElem_mem hlt
    have hIX:=hall _ hXm
    obtain ⟨X,hX⟩ : ∃ X,X = rd_T39 l0 i:=⟨_,rfl⟩
    rw [← hX] at h hx0 hx1 hx2 hIX
    have r0:=eq_true c2.1.1
    have r1:=eq_true c2.1.2
    have HP:=Aside0.mk (fun W=>loops_hasParts.calls X.f0 X.f1 X.f2 _ W (hasParts_b X))
    have HI:=Aside0.mk hi
    have HS1:=Aside0.mk hS1
    have HIH:=Aside0.mk ih
    have HIX:=Aside0.mk hIX
    by_cases c4 : X.f0 = 4∨X.f0 = 5
    rotate_left
    · rw [if_neg c4] at h
      rw [decide_eq_false c4] at HP
      injection h with h
      injection h with e1 e2
      subst e1;subst e2
      have HC2:=Aside0.mk c2.2
      have HKEEP:=Aside0.mk (fun(W' : World) (sl2 : SL) (hW : CycSt (some adt) c0 l0.length gs gt gv b wc W' sl2)=>(show W'.cell? ⟨gt,0,none⟩ = some (.slice (some adt) l0.length c0)∧W'.cell? ⟨gv,0,none⟩ = some (.func (.func 65) #[] #[.pointer (some ⟨gs,0,none⟩),.pointer (some ⟨gt,0,none⟩),.pointer (some ⟨gv,0,none⟩)])∧W'.cell? (adt.add (i.toNat * 3)) = some (.int .i64 X.f0)∧W'.cell? ⟨(adt.add (i.toNat * 3)).block,(adt.add (i.toNat * 3)).off + 1,none⟩ = some (.int .i64 X.f1)∧W'.cell? ⟨(adt.add (i.toNat * 3)).block,(adt.add (i.toNat * 3)).off + 2,none⟩ = some (.int .i64 X.f2) from by
        obtain ⟨ad2,ea2,g0,g1,g2⟩:=at_T39 (Kd.C_below hr0 hW.1) i c2.1.1 c2.1.2
        obtain rfl : adt = ad2:=by injection ea2
        rw [← hX] at g0 g1 g2
        exact⟨(bkC hW.2.2.2.1 0).trans rfl,(bkC hW.2.2.2.2.1 0).trans rfl,g0,g1,g2⟩))
      clear ih hS hi c1 hy c2 hXm hX hx0 hx1 hx2 c4 hIX hS1 HIH
      go_enter Try.func65,Try.ntmps65
      go_wp2
      refine start_ (n:=24) (S:=fun w'=>w'.cell? ⟨gt,0,none⟩ = some (.slice (some adt) l0.length c0)∧w'.cell? ⟨gv,0,none⟩ = some (.func (.func 65) #[] #[.pointer (some ⟨gs,0,none⟩),.pointer (some ⟨gt,0,none⟩),.pointer (some ⟨gv,0,none⟩)])∧w'.cell? (adt.add (i.toNat * 3)) = some (.int .i64 X.f0)∧w'.cell? ⟨(adt.add (i.toNat * 3)).block,(adt.add (i.toNat * 3)).off + 1,none⟩ = some (.int .i64 X.f1)∧w'.cell? ⟨(adt.add (i.toNat * 3)).block,(adt.add (i.toNat * 3)).off + 2,none⟩ = some (.int .i64 X.f2)) (ds:=[]) #[false,false,false,false,false,false,false,false,false,false,false,false,false,false,false,false,false,false,false,false,false,false,false,false] (by kernel_rfl) rfl rfl (HKEEP.out _ _ (HS1.out.below (bwN (Below.refl _ _) 1))) (fun hHeld=>?_)
      refine take_ (i:=0) (N:=some 17) (v:=?_) (a':=?_) #[true,false,false,false,false,false,false,false,false,false,false,false,false,false,false,false,false,false,false,false,false,false,false,false] rfl rfl (by kernel_rfl) (fun _ _ _ h=>h) (Or.inl ⟨by rfl,?_⟩) hHeld ?_ ?_
      rotate_left
      · rintro w' ⟨s0, s1, s2, s3, s4⟩
        go_simp
        with_reducible rfl
      rotate_left
      · simp only [Act.put, List.setIfInBounds_toArray, List.set_cons_zero, List.set_cons_succ, i64_w, i32_w]
        rfl
      refine pure_ (i:=1) (N:=some 18) (v:=?_) (a':=?_) #[true,true,false,false,false,false,false,false,false,false,false,false,false,false,false,false,false,false,false,false,false,false,false,false] rfl rfl (by kernel_rfl) (fun _ _ _ h=>h) (Or.inl ⟨by rfl,?_⟩) ?_ ?_
      rotate_left
      · intro w'
        go_simp
        with_reducible rfl
      rotate_left
      · simp only [Act.put, List.setIfInBounds_toArray, List.set_cons_zero, List.set_cons_succ, i64_w, i32_w]
        rfl
      refine pure_ (i:=2) (N:=some 19) (v:=?_) (a':=?_) #[true,true,true,false,false,false,false,false,false,false,false,false,false,false,false,false,false,false,false,false,false,false,false,false] rfl rfl (by kernel_rfl) (fun _ _ _ h=>h) (Or.inl ⟨by rfl,?_⟩) ?_ ?_
      rotate_left
      · intro w'
        go_simp
        with_reducible rfl
      rotate_left
      · simp only [Act.put, List.setIfInBounds_toArray, List.set_cons_zero, List.set_cons_succ, i64_w, i32_w]
        rfl
      refine take_ (i:=3) (N:=some 20) (v:=?_) (a':=?_) #[true,true,true,true,false,false,false,false,false,false,false,false,false,false,false,false,false,false,false,false,false,false,false,false] rfl rfl (by kernel_rfl) (fun _ _ _ h=>h) (Or.inl ⟨by rfl,?_⟩) hHeld ?_ ?_
      rotate_left
      · rintro w' ⟨s0, s1, s2, s3, s4⟩
        go_simp
        with_reducible rfl
      rotate_left
      · simp only [Act.put, List.setIfInBounds_toArray, List.set_cons_zero, List.set_cons_succ, i64_w, i32_w]
        rfl
      refine one_ (i:=4) (N:=some 21) #[true,true,true,true,true,false,false,false,false,false,false,false,false,false,false,false,false,false,false,false,false,false,false,false] rfl rfl (by kernel_rfl) (by decide) (fun K hK=>?_)
      go_simp
      go_at_call 45
      (with_reducible refine(HP.out _).mono ?_)
      rintro e w2 ⟨rfl,hB2⟩
      have HS2:=Aside0.mk ((HS1.out.below (bwN (Below.refl _ _) 1)).below hB2)
      clear hB2
      refine hK.out _ _ (HKEEP.out _ _ HS2.out) (fun hHeld=>?_)
      clear hK K
      refine pure_ (i:=5) (N:=some 22) (v:=?_) (a':=?_) #[true,true,true,true,true,true,false,false,false,false,false,false,false,false,false,false,false,false,false,false,false,false,false,false] rfl rfl (by kernel_rfl) (fun _ _ _ h=>h) (Or.inl ⟨by rfl,?_⟩) ?_ ?_
      rotate_left
      · intro w'
        go_simp
        with_reducible rfl
      rotate_left
      · simp only [Act.put, List.setIfInBounds_toArray, List.set_cons_zero, List.set_cons_succ, i64_w, i32_w]
        rfl
      refine pure_ (i:=6) (N:=some 23) (v:=undef) (a':=?_) #[true,true,true,true,true,true,true,false,false,false,false,false,false,false,false,false,false,false,false,false,false,false,false,false] rfl rfl (by kernel_rfl) (fun _ _ _ h=>h) (Or.inr ⟨by rfl,rfl⟩) ?_ ?_
      rotate_left
      · simp only [Act.put, List.setIfInBounds_toArray, List.set_cons_zero, List.set_cons_succ, i64_w, i32_w]
        rfl
      refine pure_ (i:=7) (N:=some 24) (v:=undef) (a':=?_) #[true,true,true,true,true,true,true,true,false,false,false,false,false,false,false,false,false,false,false,false,false,false,false,false] rfl rfl (by kernel_rfl) (fun _ _ _ h=>h) (Or.inr ⟨by rfl,rfl⟩) ?_ ?_
      rotate_left
      · simp only [Act.put, List.setIfInBounds_toArray, List.set_cons_zero, List.set_cons_succ, i64_w, i32_w]
        rfl
      refine pure_ (i:=8) (N:=some 25) (v:=undef) (a':=?_) #[true,true,true,true,true,true,true,true,true,false,false,false,false,false,false,false,false,false,false,false,false,false,false,false] rfl rfl (by kernel_rfl) (fun _ _ _ h=>h) (Or.inr ⟨by rfl,rfl⟩) ?_ ?_
      rotate_left
      · simp only [Act.put, List.setIfInBounds_toArray, List.set_cons_zero, List.set_cons_succ, i64_w, i32_w]
        rfl
      refine pure_ (i:=9) (N:=some 26) (v:=undef) (a':=?_) #[true,true,true,true,true,true,true,true,true,true,false,false,false,false,false,false,false,false,false,false,false,false,false,false] rfl rfl (by kernel_rfl) (fun _ _ _ h=>h) (Or.inr ⟨by rfl,rfl⟩) ?_ ?_
      rotate_left
      · simp only [Act.put, List.setIfInBounds_toArray, List.set_cons_zero, List.set_cons_succ, i64_w, i32_w]
        rfl
      refine pure_ (i:=10) (N:=some 27) (v:=undef) (a':=?_) #[true,true,true,true,true,true,true,true,true,true,true,false,false,false,false,false,false,false,false,false,false,false,false,false] rfl rfl (by kernel_rfl) (fun _ _ _ h=>h) (Or.inr ⟨by rfl,rfl⟩) ?_ ?_
      rotate_left
      · simp only [Act.put, List.setIfInBounds_toArray, List.set_cons_zero, List.set_cons_succ, i64_w, i32_w]
        rfl
      refine pure_ (i:=11) (N:=some 28) (v:=undef) (a':=?_) #[true,true,true,true,true,true,true,true,true,true,true,true,false,false,false,false,false,false,false,false,false,false,false,false] rfl rfl (by kernel_rfl) (fun _ _ _ h=>h) (Or.inr ⟨by rfl,rfl⟩) ?_ ?_
      rotate_left
      · simp only [Act.put, List.setIfInBounds_toArray, List.set_cons_zero, List.set_cons_succ, i64_w, i32_w]
        rfl
      refine pure_ (i:=12) (N:=some 29) (v:=undef) (a':=?_) #[true,true,true,true,true,true,true,true,true,true,true,true,true,false,false,false,false,false,false,false,false,false,false,false] rfl rfl (by kernel_rfl) (fun _ _ _ h=>h) (Or.inr ⟨by rfl,rfl⟩) ?_ ?_
      rotate_left
      · simp only [Act.put, List.setIfInBounds_toArray, List.set_cons_zero, List.set_cons_succ, i64_w, i32_w]
        rfl
      refine pure_ (i:=13) (N:=some 30) (v:=undef) (a':=?_) #[true,true,true,true,true,true,true,true,true,true,true,true,true,true,false,false,false,false,false,false,false,false,false,false] rfl rfl (by kernel_rfl) (fun _ _ _ h=>h) (Or.inr ⟨by rfl,rfl⟩) ?_ ?_
      rotate_left
      · simp only [Act.put, List.setIfInBounds_toArray, List.set_cons_zero, List.set_cons_succ, i64_w, i32_w]
        rfl
      refine pure_ (i:=14) (N:=some 31) (v:=undef) (a':=?_) #[true,true,true,true,true,true,true,true,true,true,true,true,true,true,true,false,false,false,false,false,false,false,false,false] rfl rfl (by kernel_rfl) (fun _ _ _ h=>h) (Or.inr ⟨by rfl,rfl⟩) ?_ ?_
      rotate_left
      · simp only [Act.put, List.setIfInBounds_toArray, List.set_cons_zero, List.set_cons_succ, i64_w, i32_w]
        rfl
      refine pure_ (i:=15) (N:=some 32) (v:=undef) (a':=?_) #[true,true,true,true,true,true,true,true,true,true,true,true,true,true,true,true,false,false,false,false,false,false,false,false] rfl rfl (by kernel_rfl) (fun _ _ _ h=>h) (Or.inr ⟨by rfl,rfl⟩) ?_ ?_
      rotate_left
      · simp only [Act.put, List.setIfInBounds_toArray, List.set_cons_zero, List.set_cons_succ, i64_w, i32_w]
        rfl
      refine pure_ (i:=16) (N:=some 33) (v:=undef) (a':=?_) #[true,true,true,true,true,true,true,true,true,true,true,true,true,true,true,true,true,false,false,false,false,false,false,false] rfl rfl (by kernel_rfl) (fun _ _ _ h=>h) (Or.inr ⟨by rfl,rfl⟩) ?_ ?_
      rotate_left
      · simp only [Act.put, List.setIfInBounds_toArray, List.set_cons_zero, List.set_cons_succ, i64_w, i32_w]
        rfl
      refine pure_ (i:=17) (N:=some 34) (v:=undef) (a':=?_) #[true,true,true,true,true,true,true,true,true,true,true,true,true,true,true,true,true,true,false,false,false,false,false,false] rfl rfl (by kernel_rfl) (fun _ _ _ h=>h) (Or.inr ⟨by rfl,rfl⟩) ?_ ?_
      rotate_left
      · simp only [Act.put, List.setIfInBounds_toArray, List.set_cons_zero, List.set_cons_succ, i64_w, i32_w]
        rfl
      refine pure_ (i:=18) (N:=some 35) (v:=undef) (a':=?_) #[true,true,true,true,true,true,true,true,true,true,true,true,true,true,true,true,true,true,true,false,false,false,false,false] rfl rfl (by kernel_rfl) (fun _ _ _ h=>h) (Or.inr ⟨by rfl,rfl⟩) ?_ ?_
      rotate_left
      · simp only [Act.put, List.setIfInBounds_toArray, List.set_cons_zero, List.set_cons_succ, i64_w, i32_w]
        rfl
      refine pure_ (i:=19) (N:=some 36) (v:=undef) (a':=?_) #[true,true,true,true,true,true,true,true,true,true,true,true,true,true,true,true,true,true,true,true,false,false,false,false] rfl rfl (by kernel_rfl) (fun _ _ _ h=>h) (Or.inr ⟨by rfl,rfl⟩) ?_ ?_
      rotate_left
      · simp only [Act.put, List.setIfInBounds_toArray, List.set_cons_zero, List.set_cons_succ, i64_w, i32_w]
        rfl
      refine pure_ (i:=20) (N:=some 37) (v:=undef) (a':=?_) #[true,true,true,true,true,true,true,true,true,true,true,true,true,true,true,true,true,true,true,true,true,false,false,false] rfl rfl (by kernel_rfl) (fun _ _ _ h=>h) (Or.inr ⟨by rfl,rfl⟩) ?_ ?_
      rotate_left
      · simp only [Act.put, List.setIfInBounds_toArray, List.set_cons_zero, List.set_cons_succ, i64_w, i32_w]
        rfl
      refine pure_ (i:=21) (N:=some 38) (v:=undef) (a':=?_) #[true,true,true,true,true,true,true,true,true,true,true,true,true,true,true,true,true,true,true,true,true,true,false,false] rfl rfl (by kernel_rfl) (fun _ _ _ h=>h) (Or.inr ⟨by rfl,rfl⟩) ?_ ?_
      rotate_left
      · simp only [Act.put, List.setIfInBounds_toArray, List.set_cons_zero, List.set_cons_succ, i64_w, i32_w]
        rfl
      refine pure_ (i:=22) (N:=some 39) (v:=?_) (a':=?_) #[true,true,true,true,true,true,true,true,true,true,true,true,true,true,true,true,true,true,true,true,true,true,true,false] rfl rfl (by kernel_rfl) (fun _ _ _ h=>h) (Or.inl ⟨by rfl,?_⟩) ?_ ?_
      rotate_left
      · intro w'
        go_simp
        with_reducible rfl
      rotate_left
      · simp only [Act.put, List.setIfInBounds_toArray, List.set_cons_zero, List.set_cons_succ, i64_w, i32_w]
        rfl
      refine pure_ (i:=23) (N:=some 6) (v:=?_) (a':=?_) #[true,true,true,true,true,true,true,true,true,true,true,true,true,true,true,true,true,true,true,true,true,true,true,true] rfl rfl (by kernel_rfl) (fun _ _ _ h=>h) (Or.inl ⟨by rfl,?_⟩) ?_ ?_
      rotate_left
      · intro w'
        go_simp
        with_reducible rfl
      rotate_left
      · simp only [Act.put, List.setIfInBounds_toArray, List.set_cons_zero, List.set_cons_succ, i64_w, i32_w]
        rfl
      refine done_ (by kernel_rfl) ?_
      obtain ⟨w9,hst9,hS9⟩:=HS2.out.store 2 HI.out (by have:=HC2.out;simp;omega)
      have cs9:=(bkC HS2.out.2.2.1 0).trans rfl
      have HS9:=Aside0.mk hS9
      clear hS9 hHeld
      go_wp2
      go_ret
      exact⟨rfl,HS9.out⟩
    rw [if_pos c4] at h
    rw [decide_eq_true c4] at HP
    replace h:=Option.bind_eq_some_iff.mp h
    obtain ⟨a,ha,h⟩:=h
    by_cases c5 : a.2.length≤1000000
    case neg=>rw [if_neg c5] at h;cases h
    rw [if_pos c5] at h
    cases hr : a.1 with
    | true =>
      rw [if_pos hr] at h
      injection h with h
      injection h with e1 e2
      subst e1;subst e2
      have HV1:=Aside0.mk (fun(W : World) (hW : CycSt (some adt) c0 l0.length gs gt gv b wc W ((i,1) :: sl))=>ih X.f1 _ a.1 a.2 W hW hIX.1 ha)
      rw [hr] at HV1
      have HC5:=Aside0.mk c5
      have HKEEP:=Aside0.mk (fun(W' : World) (sl2 : SL) (hW : CycSt (some adt) c0 l0.length gs gt gv b wc W' sl2)=>(show W'.cell? ⟨gt,0,none⟩ = some (.slice (some adt) l0.length c0)∧W'.cell? ⟨gv,0,none⟩ = some (.func (.func 65) #[] #[.pointer (some ⟨gs,0,none⟩),.pointer (some ⟨gt,0,none⟩),.pointer (some ⟨gv,0,none⟩)])∧W'.cell? (adt.add (i.toNat * 3)) = some (.int .i64 X.f0)∧W'.cell? ⟨(adt.add (i.toNat * 3)).block,(adt.add (i.toNat * 3)).off + 1,none⟩ = some (.int .i64 X.f1)∧W'.cell? ⟨(adt.add (i.toNat * 3)).block,(adt.add (i.toNat * 3)).off + 2,none⟩ = some (.int .i64 X.f2) from by
        obtain ⟨ad2,ea2,g0,g1,g2⟩:=at_T39 (Kd.C_below hr0 hW.1) i c2.1.1 c2.1.2
        obtain rfl : adt = ad2:=by injection ea2
        rw [← hX] at g0 g1 g2
        exact⟨(bkC hW.2.2.2.1 0).trans rfl,(bkC hW.2.2.2.2.1 0).trans rfl,g0,g1,g2⟩))
      clear ih hS hi c1 hy c2 hXm hX hx0 hx1 hx2 ha c5 hr c4 hIX hS1 HIH
      go_enter Try.func65,Try.ntmps65
      go_wp2
      refine start_ (n:=24) (S:=fun w'=>w'.cell? ⟨gt,0,none⟩ = some (.slice (some adt) l0.length c0)∧w'.cell? ⟨gv,0,none⟩ = some (.func (.func 65) #[] #[.pointer (some ⟨gs,0,none⟩),.pointer (some ⟨gt,0,none⟩),.pointer (some ⟨gv,0,none⟩)])∧w'.cell? (adt.add (i.toNat * 3)) = some (.int .i64 X.f0)∧w'.cell? ⟨(adt.add (i.toNat * 3)).block,(adt.add (i.toNat * 3)).off + 1,none⟩ = some (.int .i64 X.f1)∧w'.cell? ⟨(adt.add (i.toNat * 3)).block,(adt.add (i.toNat * 3)).off + 2,none⟩ = some (.int .i64 X.f2)) (ds:=[]) #[false,false,false,false,false,false,false,false,false,false,false,false,false,false,false,false,false,false,false,false,false,false,false,false] (by kernel_rfl) rfl rfl (HKEEP.out _ _ (HS1.out.below (bwN (Below.refl _ _) 1))) (fun hHeld=>?_)
      refine take_ (i:=0) (N:=some 17) (v:=?_) (a':=?_) #[true,false,false,false,false,false,false,false,false,false,false,false,false,false,false,false,false,false,false,false,false,false,false,false] rfl rfl (by kernel_rfl) (fun _ _ _ h=>h) (Or.inl ⟨by rfl,?_⟩) hHeld ?_ ?_
      rotate_left
      · rintro w' ⟨s0, s1, s2, s3, s4⟩
        go_simp
        with_reducible rfl
      rotate_left
      · simp only [Act.put, List.setIfInBounds_toArray, List.set_cons_zero, List.set_cons_succ, i64_w, i32_w]
        rfl
      refine pure_ (i:=1) (N:=some 18) (v:=?_) (a':=?_) #[true,true,false,false,false,false,false,false,false,false,false,false,false,false,false,false,false,false,false,false,false,false,false,false] rfl rfl (by kernel_rfl) (fun _ _ _ h=>h) (Or.inl ⟨by rfl,?_⟩) ?_ ?_
      rotate_left
      · intro w'
        go_simp
        with_reducible rfl
      rotate_left
      · simp only [Act.put, List.setIfInBounds_toArray, List.set_cons_zero, List.set_cons_succ, i64_w, i32_w]
        rfl
      refine pure_ (i:=2) (N:=some 19) (v:=?_) (a':=?_) #[true,true,true,false,false,false,false,false,false,false,false,false,false,false,false,false,false,false,false,false,false,false,false,false] rfl rfl (by kernel_rfl) (fun _ _ _ h=>h) (Or.inl ⟨by rfl,?_⟩) ?_ ?_
      rotate_left
      · intro w'
        go_simp
        with_reducible rfl
      rotate_left
      · simp only [Act.put, List.setIfInBounds_toArray, List.set_cons_zero, List.set_cons_succ, i64_w, i32_w]
        rfl
      refine take_ (i:=3) (N:=some 20) (v:=?_) (a':=?_) #[true,true,true,true,false,false,false,false,false,false,false,false,false,false,false,false,false,false,false,false,false,false,false,false] rfl rfl (by kernel_rfl) (fun _ _ _ h=>h) (Or.inl ⟨by rfl,?_⟩) hHeld ?_ ?_
      rotate_left
      · rintro w' ⟨s0, s1, s2, s3, s4⟩
        go_simp
        with_reducible rfl
      rotate_left
      · simp only [Act.put, List.setIfInBounds_toArray, List.set_cons_zero, List.set_cons_succ, i64_w, i32_w]
        rfl
      refine one_ (i:=4) (N:=some 21) #[true,true,true,true,true,false,false,false,false,false,false,false,false,false,false,false,false,false,false,false,false,false,false,false] rfl rfl (by kernel_rfl) (by decide) (fun K hK=>?_)
      go_simp
      go_at_call 45
      (with_reducible refine(HP.out _).mono ?_)
      rintro e w2 ⟨rfl,hB2⟩
      have HS2:=Aside0.mk ((HS1.out.below (bwN (Below.refl _ _) 1)).below hB2)
      clear hB2
      refine hK.out _ _ (HKEEP.out _ _ HS2.out) (fun hHeld=>?_)
      clear hK K
      refine pure_ (i:=5) (N:=some 22) (v:=?_) (a':=?_) #[true,true,true,true,true,true,false,false,false,false,false,false,false,false,false,false,false,false,false,false,false,false,false,false] rfl rfl (by kernel_rfl) (fun _ _ _ h=>h) (Or.inl ⟨by rfl,?_⟩) ?_ ?_
      rotate_left
      · intro w'
        go_simp
        with_reducible rfl
      rotate_left
      · simp only [Act.put, List.setIfInBounds_toArray, List.set_cons_zero, List.set_cons_succ, i64_w, i32_w]
        rfl
      refine take_ (i:=6) (N:=some 23) (v:=?_) (a':=?_) #[true,true,true,true,true,true,true,false,false,false,false,false,false,false,false,false,false,false,false,false,false,false,false,false] rfl rfl (by kernel_rfl) (fun _ _ _ h=>h) (Or.inl ⟨by rfl,?_⟩) hHeld ?_ ?_
      rotate_left
      · rintro w' ⟨s0, s1, s2, s3, s4⟩
        go_simp
        with_reducible rfl
      rotate_left
      · simp only [Act.put, List.setIfInBounds_toArray, List.set_cons_zero, List.set_cons_succ, i64_w, i32_w]
        rfl
      refine take_ (i:=7) (N:=some 24) (v:=?_) (a':=?_) #[true,true,true,true,true,true,true,true,false,false,false,false,false,false,false,false,false,false,false,false,false,false,false,false] rfl rfl (by kernel_rfl) (fun _ _ _ h=>h) (Or.inl ⟨by rfl,?_⟩) hHeld ?_ ?_
      rotate_left
      · rintro w' ⟨s0, s1, s2, s3, s4⟩
        go_simp
        with_reducible rfl
      rotate_left
      · simp only [Act.put, List.setIfInBounds_toArray, List.set_cons_zero, List.set_cons_succ, i64_w, i32_w]
        rfl
      refine pure_ (i:=8) (N:=some 25) (v:=?_) (a':=?_) #[true,true,true,true,true,true,true,true,true,false,false,false,false,false,false,false,false,false,false,false,false,false,false,false] rfl rfl (by kernel_rfl) (fun _ _ _ h=>h) (Or.inl ⟨by rfl,?_⟩) ?_ ?_
      rotate_left
      · intro w'
        go_simp
        with_reducible rfl
      rotate_left
      · simp only [Act.put, List.setIfInBounds_toArray, List.set_cons_zero, List.set_cons_succ, i64_w, i32_w]
        rfl
      refine pure_ (i:=9) (N:=some 26) (v:=?_) (a':=?_) #[true,true,true,true,true,true,true,true,true,true,false,false,false,false,false,false,false,false,false,false,false,false,false,false] rfl rfl (by kernel_rfl) (fun _ _ _ h=>h) (Or.inl ⟨by rfl,?_⟩) ?_ ?_
      rotate_left
      · intro w'
        go_simp
        with_reducible rfl
      rotate_left
      · simp only [Act.put, List.setIfInBounds_toArray, List.set_cons_zero, List.set_cons_succ, i64_w, i32_w]
        rfl
      refine pure_ (i:=10) (N:=some 27) (v:=?_) (a':=?_) #[true,true,true,true,true,true,true,true,true,true,true,false,false,false,false,false,false,false,false,false,false,false,false,false] rfl rfl (by kernel_rfl) (fun _ _ _ h=>h) (Or.inl ⟨by rfl,?_⟩) ?_ ?_
      rotate_left
      · intro w'
        go_simp
        with_reducible rfl
      rotate_left
      · simp only [Act.put, List.setIfInBounds_toArray, List.set_cons_zero, List.set_cons_succ, i64_w, i32_w]
        rfl
      refine take_ (i:=11) (N:=some 28) (v:=?_) (a':=?_) #[true,true,true,true,true,true,true,true,true,true,true,true,false,false,false,false,false,false,false,false,false,false,false,false] rfl rfl (by kernel_rfl) (fun _ _ _ h=>h) (Or.inl ⟨by rfl,?_⟩) hHeld ?_ ?_
      rotate_left
      · rintro w' ⟨s0, s1, s2, s3, s4⟩
        go_simp
        with_reducible rfl
      rotate_left
      · simp only [Act.put, List.setIfInBounds_toArray, List.set_cons_zero, List.set_cons_succ, i64_w, i32_w]
        rfl
      refine one_ (i:=12) (N:=some 29) #[true,true,true,true,true,true,true,true,true,true,true,true,true,false,false,false,false,false,false,false,false,false,false,false] rfl rfl (by kernel_rfl) (by decide) (fun K hK=>?_)
      go_simp
      go_at_call 65
      (with_reducible refine(HV1.out _ HS2.out).mono ?_)
      rintro e w3 ⟨rfl,hS3⟩
      have HS3:=Aside0.mk hS3
      clear hS3
      refine hK.out _ _ (HKEEP.out _ _ HS3.out) (fun hHeld=>?_)
      clear hK K
      refine pure_ (i:=13) (N:=some 30) (v:=?_) (a':=?_) #[true,true,true,true,true,true,true,true,true,true,true,true,true,true,false,false,false,false,false,false,false,false,false,false] rfl rfl (by kernel_rfl) (fun _ _ _ h=>h) (Or.inl ⟨by rfl,?_⟩) ?_ ?_
      rotate_left
      · intro w'
        go_simp
        with_reducible rfl
      rotate_left
      · simp only [Act.put, List.setIfInBounds_toArray, List.set_cons_zero, List.set_cons_succ, i64_w, i32_w]
        rfl
      refine pure_ (i:=14) (N:=some 31) (v:=undef) (a':=?_) #[true,true,true,true,true,true,true,true,true,true,true,true,true,true,true,false,false,false,false,false,false,false,false,false] rfl rfl (by kernel_rfl) (fun _ _ _ h=>h) (Or.inr ⟨by rfl,rfl⟩) ?_ ?_
      rotate_left
      · simp only [Act.put, List.setIfInBounds_toArray, List.set_cons_zero, List.set_cons_succ, i64_w, i32_w]
        rfl
      refine pure_ (i:=15) (N:=some 32) (v:=undef) (a':=?_) #[true,true,true,true,true,true,true,true,true,true,true,true,true,true,true,true,false,false,false,false,false,false,false,false] rfl rfl (by kernel_rfl) (fun _ _ _ h=>h) (Or.inr ⟨by rfl,rfl⟩) ?_ ?_
      rotate_left
      · simp only [Act.put, List.setIfInBounds_toArray, List.set_cons_zero, List.set_cons_succ, i64_w, i32_w]
        rfl
      refine pure_ (i:=16) (N:=some 33) (v:=undef) (a':=?_) #[true,true,true,true,true,true,true,true,true,true,true,true,true,true,true,true,true,false,false,false,false,false,false,false] rfl rfl (by kernel_rfl) (fun _ _ _ h=>h) (Or.inr ⟨by rfl,rfl⟩) ?_ ?_
      rotate_left
      · simp only [Act.put, List.setIfInBounds_toArray, List.set_cons_zero, List.set_cons_succ, i64_w, i32_w]
        rfl
      refine pure_ (i:=17) (N:=some 34) (v:=undef) (a':=?_) #[true,true,true,true,true,true,true,true,true,true,true,true,true,true,true,true,true,true,false,false,false,false,false,false] rfl rfl (by kernel_rfl) (fun _ _ _ h=>h) (Or.inr ⟨by rfl,rfl⟩) ?_ ?_
      rotate_left
      · simp only [Act.put, List.setIfInBounds_toArray, List.set_cons_zero, List.set_cons_succ, i64_w, i32_w]
        rfl
      refine pure_ (i:=18) (N:=some 35) (v:=undef) (a':=?_) #[true,true,true,true,true,true,true,true,true,true,true,true,true,true,true,true,true,true,true,false,false,false,false,false] rfl rfl (by kernel_rfl) (fun _ _ _ h=>h) (Or.inr ⟨by rfl,rfl⟩) ?_ ?_
      rotate_left
      · simp only [Act.put, List.setIfInBounds_toArray, List.set_cons_zero, List.set_cons_succ, i64_w, i32_w]
        rfl
      refine pure_ (i:=19) (N:=some 36) (v:=undef) (a':=?_) #[true,true,true,true,true,true,true,true,true,true,true,true,true,true,true,true,true,true,true,true,false,false,false,false] rfl rfl (by kernel_rfl) (fun _ _ _ h=>h) (Or.inr ⟨by rfl,rfl⟩) ?_ ?_
      rotate_left
      · simp only [Act.put, List.setIfInBounds_toArray, List.set_cons_zero, List.set_cons_succ, i64_w, i32_w]
        rfl
      refine pure_ (i:=20) (N:=some 37) (v:=undef) (a':=?_) #[true,true,true,true,true,true,true,true,true,true,true,true,true,true,true,true,true,true,true,true,true,false,false,false] rfl rfl (by kernel_rfl) (fun _ _ _ h=>h) (Or.inr ⟨by rfl,rfl⟩) ?_ ?_
      rotate_left
      · simp only [Act.put, List.setIfInBounds_toArray, List.set_cons_zero, List.set_cons_succ, i64_w, i32_w]
        rfl
      refine pure_ (i:=21) (N:=some 38) (v:=?_) (a':=?_) #[true,true,true,true,true,true,true,true,true,true,true,true,true,true,true,true,true,true,true,true,true,true,false,false] rfl rfl (by kernel_rfl) (fun _ _ _ h=>h) (Or.inl ⟨by rfl,?_⟩) ?_ ?_
      rotate_left
      · intro w'
        go_simp
        with_reducible rfl
      rotate_left
      · simp only [Act.put, List.setIfInBounds_toArray, List.set_cons_zero, List.set_cons_succ, i64_w, i32_w]
        rfl
      refine pure_ (i:=22) (N:=some 39) (v:=?_) (a':=?_) #[true,true,true,true,true,true,true,true,true,true,true,true,true,true,true,true,true,true,true,true,true,true,true,false] rfl rfl (by kernel_rfl) (fun _ _ _ h=>h) (Or.inl ⟨by rfl,?_⟩) ?_ ?_
      rotate_left
      · intro w'
        go_simp
        with_reducible rfl
      rotate_left
      · simp only [Act.put, List.setIfInBounds_toArray, List.set_cons_zero, List.set_cons_succ, i64_w, i32_w]
        rfl
      refine pure_ (i:=23) (N:=some 6) (v:=?_) (a':=?_) #[true,true,true,true,true,true,true,true,true,true,true,true,true,true,true,true,true,true,true,true,true,true,true,true] rfl rfl (by kernel_rfl) (fun _ _ _ h=>h) (Or.inl ⟨by rfl,?_⟩) ?_ ?_
      rotate_left
      · intro w'
        go_simp
        with_reducible rfl
      rotate_left
      · simp only [Act.put, List.setIfInBounds_toArray, List.set_cons_zero, List.set_cons_succ, i64_w, i32_w]
        rfl
      refine done_ (by kernel_rfl) ?_
      obtain ⟨w9,hst9,hS9⟩:=HS3.out.store 2 HI.out HC5.out
      have cs9:=(bkC HS3.out.2.2.1 0).trans rfl
      have HS9:=Aside0.mk hS9
      clear hS9 hHeld
      go_wp2
      go_ret
      exact⟨rfl,HS9.out⟩
    | false =>
      rw [if_neg (by rw [hr];decide)] at h
      replace h:=Option.bind_eq_some_iff.mp h
      obtain ⟨b2,hb2,h⟩:=h
      by_cases c6 : b2.2.length≤1000000
      case neg=>rw [if_neg c6] at h;cases h
      rw [if_pos c6] at h
      injection h with h
      injection h with e1 e2
      obtain ⟨rb,hrb⟩ : ∃ rb,rb = b2.1:=⟨_,rfl⟩
      rw [← hrb] at e1
      subst e1;subst e2
      have HV1:=Aside0.mk (fun(W : World) (hW : CycSt (some adt) c0 l0.length gs gt gv b wc W ((i,1) :: sl))=>ih X.f1 _ a.1 a.2 W hW hIX.1 ha)
      rw [hr] at HV1
      have HV2:=Aside0.mk (fun(W : World) (hW : CycSt (some adt) c0 l0.length gs gt gv b wc W a.2)=>ih X.f2 _ b2.1 b2.2 W hW hIX.2 hb2)
      rw [← hrb] at HV2
      have HC6:=Aside0.mk c6
      have HKEEP:=Aside0.mk (fun(W' : World) (sl2 : SL) (hW : CycSt (some adt) c0 l0.length gs gt gv b wc W' sl2)=>(show W'.cell? ⟨gt,0,none⟩ = some (.slice (some adt) l0.length c0)∧W'.cell? ⟨gv,0,none⟩ = some (.func (.func 65) #[] #[.pointer (some ⟨gs,0,none⟩),.pointer (some ⟨gt,0,none⟩),.pointer (some ⟨gv,0,none⟩)])∧W'.cell? (adt.add (i.toNat * 3)) = some (.int .i64 X.f0)∧W'.cell? ⟨(adt.add (i.toNat * 3)).block,(adt.add (i.toNat * 3)).off + 1,none⟩ = some (.int .i64 X.f1)∧W'.cell? ⟨(adt.add (i.toNat * 3)).block,(adt.add (i.toNat * 3)).off + 2,none⟩ = some (.int .i64 X.f2) from by
        obtain ⟨ad2,ea2,g0,g1,g2⟩:=at_T39 (Kd.C_below hr0 hW.1) i c2.1.1 c2.1.2
        obtain rfl : adt = ad2:=by injection ea2
        rw [← hX] at g0 g1 g2
        exact⟨(bkC hW.2.2.2.1 0).trans rfl,(bkC hW.2.2.2.2.1 0).trans rfl,g0,g1,g2⟩))
      clear ih hS hi c1 hy c2 hXm hX hx0 hx1 hx2 ha c5 hr c4 hb2 c6 hrb hIX hS1 HIH
      go_enter Try.func65,Try.ntmps65
      go_wp2
      refine start_ (n:=24) (S:=fun w'=>w'.cell? ⟨gt,0,none⟩ = some (.slice (some adt) l0.length c0)∧w'.cell? ⟨gv,0,none⟩ = some (.func (.func 65) #[] #[.pointer (some ⟨gs,0,none⟩),.pointer (some ⟨gt,0,none⟩),.pointer (some ⟨gv,0,none⟩)])∧w'.cell? (adt.add (i.toNat * 3)) = some (.int .i64 X.f0)∧w'.cell? ⟨(adt.add (i.toNat * 3)).block,(adt.add (i.toNat * 3)).off + 1,none⟩ = some (.int .i64 X.f1)∧w'.cell? ⟨(adt.add (i.toNat * 3)).block,(adt.add (i.toNat * 3)).off + 2,none⟩ = some (.int .i64 X.f2)) (ds:=[]) #[false,false,false,false,false,false,false,false,false,false,false,false,false,false,false,false,false,false,false,false,false,false,false,false] (by kernel_rfl) rfl rfl (HKEEP.out _ _ (HS1.out.below (bwN (Below.refl _ _) 1))) (fun hHeld=>?_)
      refine take_ (i:=0) (N:=some 17) (v:=?_) (a':=?_) #[true,false,false,false,false,false,false,false,false,false,false,false,false,false,false,false,false,false,false,false,false,false,false,false] rfl rfl (by kernel_rfl) (fun _ _ _ h=>h) (Or.inl ⟨by rfl,?_⟩) hHeld ?_ ?_
      rotate_left
      · rintro w' ⟨s0, s1, s2, s3, s4⟩
        go_simp
        with_reducible rfl
      rotate_left
      · simp only [Act.put, List.setIfInBounds_toArray, List.set_cons_zero, List.set_cons_succ, i64_w, i32_w]
        rfl
      refine pure_ (i:=1) (N:=some 18) (v:=?_) (a':=?_) #[true,true,false,false,false,false,false,false,false,false,false,false,false,false,false,false,false,false,false,false,false,false,false,false] rfl rfl (by kernel_rfl) (fun _ _ _ h=>h) (Or.inl ⟨by rfl,?_⟩) ?_ ?_
      rotate_left
      · intro w'
        go_simp
        with_reducible rfl
      rotate_left
      · simp only [Act.put, List.setIfInBounds_toArray, List.set_cons_zero, List.set_cons_succ, i64_w, i32_w]
        rfl
      refine pure_ (i:=2) (N:=some 19) (v:=?_) (a':=?_) #[true,true,true,false,false,false,false,false,false,false,false,false,false,false,false,false,false,false,false,false,false,false,false,false] rfl rfl (by kernel_rfl) (fun _ _ _ h=>h) (Or.inl ⟨by rfl,?_⟩) ?_ ?_
      rotate_left
      · intro w'
        go_simp
        with_reducible rfl
      rotate_left
      · simp only [Act.put, List.setIfInBounds_toArray, List.set_cons_zero, List.set_cons_succ, i64_w, i32_w]
        rfl
      refine take_ (i:=3) (N:=some 20) (v:=?_) (a':=?_) #[true,true,true,true,false,false,false,false,false,false,false,false,false,false,false,false,false,false,false,false,false,false,false,false] rfl rfl (by kernel_rfl) (fun _ _ _ h=>h) (Or.inl ⟨by rfl,?_⟩) hHeld ?_ ?_
      rotate_left
      · rintro w' ⟨s0, s1, s2, s3, s4⟩
        go_simp
        with_reducible rfl
      rotate_left
      · simp only [Act.put, List.setIfInBounds_toArray, List.set_cons_zero, List.set_cons_succ, i64_w, i32_w]
        rfl
      refine one_ (i:=4) (N:=some 21) #[true,true,true,true,true,false,false,false,false,false,false,false,false,false,false,false,false,false,false,false,false,false,false,false] rfl rfl (by kernel_rfl) (by decide) (fun K hK=>?_)
      go_simp
      go_at_call 45
      (with_reducible refine(HP.out _).mono ?_)
      rintro e w2 ⟨rfl,hB2⟩
      have HS2:=Aside0.mk ((HS1.out.below (bwN (Below.refl _ _) 1)).below hB2)
      clear hB2
      refine hK.out _ _ (HKEEP.out _ _ HS2.out) (fun hHeld=>?_)
      clear hK K
      refine pure_ (i:=5) (N:=some 22) (v:=?_) (a':=?_) #[true,true,true,true,true,true,false,false,false,false,false,false,false,false,false,false,false,false,false,false,false,false,false,false] rfl rfl (by kernel_rfl) (fun _ _ _ h=>h) (Or.inl ⟨by rfl,?_⟩) ?_ ?_
      rotate_left
      · intro w'
        go_simp
        with_reducible rfl
      rotate_left
      · simp only [Act.put, List.setIfInBounds_toArray, List.set_cons_zero, List.set_cons_succ, i64_w, i32_w]
        rfl
      refine take_ (i:=6) (N:=some 23) (v:=?_) (a':=?_) #[true,true,true,true,true,true,true,false,false,false,false,false,false,false,false,false,false,false,false,false,false,false,false,false] rfl rfl (by kernel_rfl) (fun _ _ _ h=>h) (Or.inl ⟨by rfl,?_⟩) hHeld ?_ ?_
      rotate_left
      · rintro w' ⟨s0, s1, s2, s3, s4⟩
        go_simp
        with_reducible rfl
      rotate_left
      · simp only [Act.put, List.setIfInBounds_toArray, List.set_cons_zero, List.set_cons_succ, i64_w, i32_w]
        rfl
      refine take_ (i:=7) (N:=some 24) (v:=?_) (a':=?_) #[true,true,true,true,true,true,true,true,false,false,false,false,false,false,false,false,false,false,false,false,false,false,false,false] rfl rfl (by kernel_rfl) (fun _ _ _ h=>h) (Or.inl ⟨by rfl,?_⟩) hHeld ?_ ?_
      rotate_left
      · rintro w' ⟨s0, s1, s2, s3, s4⟩
        go_simp
        with_reducible rfl
      rotate_left
      · simp only [Act.put, List.setIfInBounds_toArray, List.set_cons_zero, List.set_cons_succ, i64_w, i32_w]
        rfl
      refine pure_ (i:=8) (N:=some 25) (v:=?_) (a':=?_) #[true,true,true,true,true,true,true,true,true,false,false,false,false,false,false,false,false,false,false,false,false,false,false,false] rfl rfl (by kernel_rfl) (fun _ _ _ h=>h) (Or.inl ⟨by rfl,?_⟩) ?_ ?_
      rotate_left
      · intro w'
        go_simp
        with_reducible rfl
      rotate_left
      · simp only [Act.put, List.setIfInBounds_toArray, List.set_cons_zero, List.set_cons_succ, i64_w, i32_w]
        rfl
      refine pure_ (i:=9) (N:=some 26) (v:=?_) (a':=?_) #[true,true,true,true,true,true,true,true,true,true,false,false,false,false,false,false,false,false,false,false,false,false,false,false] rfl rfl (by kernel_rfl) (fun _ _ _ h=>h) (Or.inl ⟨by rfl,?_⟩) ?_ ?_
      rotate_left
      · intro w'
        go_simp
        with_reducible rfl
      rotate_left
      · simp only [Act.put, List.setIfInBounds_toArray, List.set_cons_zero, List.set_cons_succ, i64_w, i32_w]
        rfl
      refine pure_ (i:=10) (N:=some 27) (v:=?_) (a':=?_) #[true,true,true,true,true,true,true,true,true,true,true,false,false,false,false,false,false,false,false,false,false,false,false,false] rfl rfl (by kernel_rfl) (fun _ _ _ h=>h) (Or.inl ⟨by rfl,?_⟩) ?_ ?_
      rotate_left
      · intro w'
        go_simp
        with_reducible rfl
      rotate_left
      · simp only [Act.put, List.setIfInBounds_toArray, List.set_cons_zero, List.set_cons_succ, i64_w, i32_w]
        rfl
      refine take_ (i:=11) (N:=some 28) (v:=?_) (a':=?_) #[true,true,true,true,true,true,true,true,true,true,true,true,false,false,false,false,false,false,false,false,false,false,false,false] rfl rfl (by kernel_rfl) (fun _ _ _ h=>h) (Or.inl ⟨by rfl,?_⟩) hHeld ?_ ?_
      rotate_left
      · rintro w' ⟨s0, s1, s2, s3, s4⟩
        go_simp
        with_reducible rfl
      rotate_left
      · simp only [Act.put, List.setIfInBounds_toArray, List.set_cons_zero, List.set_cons_succ, i64_w, i32_w]
        rfl
      refine one_ (i:=12) (N:=some 29) #[true,true,true,true,true,true,true,true,true,true,true,true,true,false,false,false,false,false,false,false,false,false,false,false] rfl rfl (by kernel_rfl) (by decide) (fun K hK=>?_)
      go_simp
      go_at_call 65
      (with_reducible refine(HV1.out _ HS2.out).mono ?_)
      rintro e w3 ⟨rfl,hS3⟩
      have HS3:=Aside0.mk hS3
      clear hS3
      refine hK.out _ _ (HKEEP.out _ _ HS3.out) (fun hHeld=>?_)
      clear hK K
      refine pure_ (i:=13) (N:=some 30) (v:=?_) (a':=?_) #[true,true,true,true,true,true,true,true,true,true,true,true,true,true,false,false,false,false,false,false,false,false,false,false] rfl rfl (by kernel_rfl) (fun _ _ _ h=>h) (Or.inl ⟨by rfl,?_⟩) ?_ ?_
      rotate_left
      · intro w'
        go_simp
        with_reducible rfl
      rotate_left
      · simp only [Act.put, List.setIfInBounds_toArray, List.set_cons_zero, List.set_cons_succ, i64_w, i32_w]
        rfl
      refine take_ (i:=14) (N:=some 31) (v:=?_) (a':=?_) #[true,true,true,true,true,true,true,true,true,true,true,true,true,true,true,false,false,false,false,false,false,false,false,false] rfl rfl (by kernel_rfl) (fun _ _ _ h=>h) (Or.inl ⟨by rfl,?_⟩) hHeld ?_ ?_
      rotate_left
      · rintro w' ⟨s0, s1, s2, s3, s4⟩
        go_simp
        with_reducible rfl
      rotate_left
      · simp only [Act.put, List.setIfInBounds_toArray, List.set_cons_zero, List.set_cons_succ, i64_w, i32_w]
        rfl
      refine take_ (i:=15) (N:=some 32) (v:=?_) (a':=?_) #[true,true,true,true,true,true,true,true,true,true,true,true,true,true,true,true,false,false,false,false,false,false,false,false] rfl rfl (by kernel_rfl) (fun _ _ _ h=>h) (Or.inl ⟨by rfl,?_⟩) hHeld ?_ ?_
      rotate_left
      · rintro w' ⟨s0, s1, s2, s3, s4⟩
        go_simp
        with_reducible rfl
      rotate_left
      · simp only [Act.put, List.setIfInBounds_toArray, List.set_cons_zero, List.set_cons_succ, i64_w, i32_w]
        rfl
      refine pure_ (i:=16) (N:=some 33) (v:=?_) (a':=?_) #[true,true,true,true,true,true,true,true,true,true,true,true,true,true,true,true,true,false,false,false,false,false,false,false] rfl rfl (by kernel_rfl) (fun _ _ _ h=>h) (Or.inl ⟨by rfl,?_⟩) ?_ ?_
      rotate_left
      · intro w'
        go_simp
        with_reducible rfl
      rotate_left
      · simp only [Act.put, List.setIfInBounds_toArray, List.set_cons_zero, List.set_cons_succ, i64_w, i32_w]
        rfl
      refine pure_ (i:=17) (N:=some 34) (v:=?_) (a':=?_) #[true,true,true,true,true,true,true,true,true,true,true,true,true,true,true,true,true,true,false,false,false,false,false,false] rfl rfl (by kernel_rfl) (fun _ _ _ h=>h) (Or.inl ⟨by rfl,?_⟩) ?_ ?_
      rotate_left
      · intro w'
        go_simp
        with_reducible rfl
      rotate_left
      · simp only [Act.put, List.setIfInBounds_toArray, List.set_cons_zero, List.set_cons_succ, i64_w, i32_w]
        rfl
      refine pure_ (i:=18) (N:=some 35) (v:=?_) (a':=?_) #[true,true,true,true,true,true,true,true,true,true,true,true,true,true,true,true,true,true,true,false,false,false,false,false] rfl rfl (by kernel_rfl) (fun _ _ _ h=>h) (Or.inl ⟨by rfl,?_⟩) ?_ ?_
      rotate_left
      · intro w'
        go_simp
        with_reducible rfl
      rotate_left
      · simp only [Act.put, List.setIfInBounds_toArray, List.set_cons_zero, List.set_cons_succ, i64_w, i32_w]
        rfl
      refine take_ (i:=19) (N:=some 36) (v:=?_) (a':=?_) #[true,true,true,true,true,true,true,true,true,true,true,true,true,true,true,true,true,true,true,true,false,false,false,false] rfl rfl (by kernel_rfl) (fun _ _ _ h=>h) (Or.inl ⟨by rfl,?_⟩) hHeld ?_ ?_
      rotate_left
      · rintro w' ⟨s0, s1, s2, s3, s4⟩
        go_simp
        with_reducible rfl
      rotate_left
      · simp only [Act.put, List.setIfInBounds_toArray, List.set_cons_zero, List.set_cons_succ, i64_w, i32_w]
        rfl
      refine one_ (i:=20) (N:=some 37) #[true,true,true,true,true,true,true,true,true,true,true,true,true,true,true,true,true,true,true,true,true,false,false,false] rfl rfl (by kernel_rfl) (by decide) (fun K hK=>?_)
      go_simp
      go_at_call 65
      (with_reducible refine(HV2.out _ HS3.out).mono ?_)
      rintro e w4 ⟨rfl,hS3⟩
      have HS4:=Aside0.mk hS3
      clear hS3
      refine hK.out _ _ (HKEEP.out _ _ HS4.out) (fun hHeld=>?_)
      clear hK K
      refine pure_ (i:=21) (N:=some 38) (v:=?_) (a':=?_) #[true,true,true,true,true,true,true,true,true,true,true,true,true,true,true,true,true,true,true,true,true,true,false,false] rfl rfl (by kernel_rfl) (fun _ _ _ h=>h) (Or.inl ⟨by rfl,?_⟩) ?_ ?_
      rotate_left
      · intro w'
        go_simp
        with_reducible rfl
      rotate_left
      · simp only [Act.put, List.setIfInBounds_toArray, List.set_cons_zero, List.set_cons_succ, i64_w, i32_w]
        rfl
      refine pure_ (i:=22) (N:=some 39) (v:=?_) (a':=?_) #[true,true,true,true,true,true,true,true,true,true,true,true,true,true,true,true,true,true,true,true,true,true,true,false] rfl rfl (by kernel_rfl) (fun _ _ _ h=>h) (Or.inl ⟨by rfl,?_⟩) ?_ ?_
      rotate_left
      · intro w'
        go_simp
        with_reducible rfl
      rotate_left
      · simp only [Act.put, List.setIfInBounds_toArray, List.set_cons_zero, List.set_cons_succ, i64_w, i32_w]
        rfl
      refine pure_ (i:=23) (N:=some 6) (v:=?_) (a':=?_) #[true,true,true,true,true,true,true,true,true,true,true,true,true,true,true,true,true,true,true,true,true,true,true,true] rfl rfl (by kernel_rfl) (fun _ _ _ h=>h) (Or.inl ⟨by rfl,?_⟩) ?_ ?_
      rotate_left
      · intro w'
        go_simp
        with_reducible rfl
      rotate_left
      · simp only [Act.put, List.setIfInBounds_toArray, List.set_cons_zero, List.set_cons_succ, i64_w, i32_w]
        rfl
      refine done_ (by kernel_rfl) ?_
      obtain ⟨w9,hst9,hS9⟩:=HS4.out.store 2 HI.out HC6.out
      have cs9:=(bkC HS4.out.2.2.1 0).trans rfl
      have HS9:=Aside0.mk hS9
      clear hS9 hHeld
      go_wp2
      go_ret
      exact⟨rfl,HS9.out⟩
set_option maxHeartbeats 2000000 in
set_option maxRecDepth 100000 in
theorem loops_onCycle.calls (A0 : Option Addr) (c0 : Nat) (l0 : List S39) (a1 : Int) (r : Bool) (w : World) (hr0 : Kd.C k39 w A0 l0.length l0) (hc0 : l0.length ≤ c0) (h : loops_onCycle.f l0 a1 = some r) :
    Calls Try.prog 46 #[.slice A0 l0.length c0,.int .i64 a1] w fun e w'=>e = .returned (.bool r)∧Below w.heap.size w w':=by
  unfold loops_onCycle.f at h
  by_cases c1 : l0.length≤1000∧i64B a1 = true∧l0.all (fun x=>i64B x.f1 && i64B x.f2) = true
  case neg=>rw [if_neg c1] at h;cases h
  rw [if_pos c1] at h
  replace h:=Option.bind_eq_some_iff.mp h
  obtain ⟨a,ha,h⟩:=h
  obtain rfl:=Option.some.inj h
  have hall : ∀ x ∈ l0,I64 x.f1∧I64 x.f2:=fun x hx=>by
    have:=List.all_eq_true.mp c1.2.2 x hx
    simp only [Bool.and_eq_true] at this
    exact⟨i64B_I64 this.1,i64B_I64 this.2⟩
  obtain ⟨W,hW⟩ : ∃ W,W =(((w.alloc (.cells #[.slice A0 l0.length c0] 22)).alloc (.map #[] 0)).alloc (.cells #[.map (some (w.heap.size + 1))] 100)).alloc (.cells #[.func (.func 65) #[] #[.pointer (some ⟨w.heap.size + 1 + 1,0,none⟩),.pointer (some ⟨w.heap.size,0,none⟩),.pointer (some ⟨w.heap.size + 1 + 1 + 1,0,none⟩)]] 95):=⟨_,rfl⟩
  have hS : CycSt A0 c0 l0.length (w.heap.size + 1 + 1) w.heap.size (w.heap.size + 1 + 1 + 1) (w.heap.size + 1) w W []:=by
    rw [hW]
    refine⟨bwA (bwA (bwA (bwA (Below.refl _ _) _) _) _) _,by omega,?_,?_,?_,?_⟩
    · exact bkB (by simpa using heap_alloc_new ((w.alloc (.cells #[.slice A0 l0.length c0] 22)).alloc (.map #[] 0)) (.cells #[.map (some (w.heap.size + 1))] 100)) (bwA (Below.refl _ _) _)
    · exact bkB (bkB (bkB (heap_alloc_new w _) (bwA (Below.refl _ _) _)) (bwA (Below.refl _ _) _)) (bwA (Below.refl _ _) _)
    · simpa using heap_alloc_new (((w.alloc (.cells #[.slice A0 l0.length c0] 22)).alloc (.map #[] 0)).alloc (.cells #[.map (some (w.heap.size + 1))] 100)) (.cells #[.func (.func 65) #[] #[.pointer (some ⟨w.heap.size + 1 + 1,0,none⟩),.pointer (some ⟨w.heap.size,0,none⟩),.pointer (some ⟨w.heap.size + 1 + 1 + 1,0,none⟩)]] 95)
    · have := MapAt.made (w.alloc (.cells #[.slice A0 l0.length c0] 22)) Try.prog 3
      simp only [World.size_alloc] at this
      exact⟨0,by simp,(((this.congr (fun kv kl _=>by unfold encI stM;split <;> rfl : ∀ kv kl,keyOf Try.prog 3 kv = some kl →(fun _=>none) kv = encI (stM []) kv)).alloc _).alloc _)⟩
  have HV:=Aside0.mk (visit_fn.calls l0 A0 c0 (w.heap.size + 1 + 1) w.heap.size (w.heap.size + 1 + 1 + 1) (w.heap.size + 1) w hr0 hall 100 a1 [] a.1 a.2 W hS (i64B_I64 c1.2.1) ha)
  have hmm:=@run_makeMap Try.prog
  have hmf : ∀ (fn : Fn) (first cap : Array Value) (w : World),(Instr.makeFunc fn first cap).run Try.prog w = .ok (.func fn first cap) w:=fun _ _ _ _=>rfl
  subst hW
  clear h ha hr0 hc0 hall hS c1
  go_enter Try.func46,Try.ntmps46
  go_wp2_with (go_at_call 65;go_must ((with_reducible refine HV.out.mono ?_);rintro e w9 ⟨rfl,hS9⟩;have HB9:=Aside0.mk hS9.1;clear hS9))
  go_ret
  exact⟨rfl,HB9.out⟩

def depF (t : List S39) : Nat → Int → Int → Option Int
  | 0,_,_=>none
  | f + 1,i,left =>
    if (0 ≤ i ∧ i < t.length) ∧ t.length ≤ 1000 ∧ 0 ≤ left ∧ left ≤ 1000 then
      if (rd_T39 t i).f0 = 4 ∨ (rd_T39 t i).f0 = 5 then
        if left = 0 then some t.length else
        (depF t f (rd_T39 t i).f1 (left - 1)).bind fun a =>
          if 0 ≤ a ∧ a ≤ 1000 then
            (if a < t.length then (depF t f (rd_T39 t i).f2 (left - 1)).bind fun b => if 0 ≤ b ∧ b ≤ 1000 then some (mn t.length (1 + mx a b)) else none
             else some (mn t.length (1 + a)))
          else none
      else some 0
    else none
def loops_Depth.f (k : Nat) (l0 : List S39) (a1 : Int) : Option (Int×Int) :=
  (loops_areNodes.f k l0 [a1]).bind fun ok =>
    if ok = true then
      (loops_onCycle.f l0 a1).bind fun cy=>if cy = true then some (0,6) else(depF l0 100 a1 l0.length).bind fun d=>some (d,0)
    else some (0,2)
theorem loops_Depth.mono : ∀ a0 a1 k,LeO (loops_Depth.f k a0 a1) (loops_Depth.f (k + 1) a0 a1):=by
  intro a0 a1 k
  unfold loops_Depth.f
  exact LeO.bind (loops_areNodes.mono _ _ _) (fun _=>LeO.refl _)
theorem ret_i64 {a b : Int} (h : a = b) : Ending.returned (.int .i64 a) = Ending.returned (.int .i64 b):=by rw [h]
def DepSt (A0 : Option Addr) (c0 n : Nat) (gt gv : Nat) (wc W : World) : Prop :=
  Below wc.heap.size wc W∧W.heap[gt]? = some (.cells #[.slice A0 n c0] 22 (0,0))∧W.heap[gv]? = some (.cells #[.func (.func 44) #[] #[.pointer (some ⟨gt,0,none⟩),.pointer (some ⟨gv,0,none⟩)]] 40 (0,0))
theorem DepSt.below {A0 : Option Addr} {c0 n gt gv : Nat} {wc W W' : World} (h : DepSt A0 c0 n gt gv wc W) (hB : Below W.heap.size W W') : DepSt A0 c0 n gt gv wc W' :=
  ⟨below_then h.1 h.1.size hB,bkB h.2.1 hB,bkB h.2.2 hB⟩
set_option maxHeartbeats 4000000 in
set_option maxRecDepth 100000 in
theorem depth_fn.calls (l0 : List S39) (A0 : Option Addr) (c0 gt gv : Nat) (wc : World) (hr0 : Kd.C k39 wc A0 l0.length l0) (f : Nat) : ∀ (i left r : Int) (W : World)
    (hS : DepSt A0 c0 l0.length gt gv wc W) (h : depF l0 f i left = some r),
    Calls Try.prog 44 #[.int .i64 i,.int .i64 left,.pointer (some ⟨gt,0,none⟩),.pointer (some ⟨gv,0,none⟩)] W fun e w'=>e = .returned (.int .i64 r)∧Below W.heap.size W w':=by
  induction f with
  | zero=>intro i left r W hS h;cases h
  | succ f ih =>
    intro i left r W hS h
    unfold depF at h
    by_cases c2 :(0≤i∧i < l0.length)∧l0.length≤1000∧0≤left∧left≤1000
    case neg=>rw [if_neg c2] at h;cases h
    rw [if_pos c2] at h
    obtain ⟨⟨d0,d1⟩,d2,d3,d4⟩:=c2
    have HS:=Aside0.mk hS
    have ct : W.cell? ⟨gt,0,none⟩ = some (.slice A0 l0.length c0):=(bkC hS.2.1 0).trans rfl
    obtain ⟨adt,eat,hx0,hx1,hx2⟩:=at_T39 (Kd.C_below hr0 hS.1) i d0 d1
    subst eat
    obtain ⟨X,hX⟩ : ∃ X,X = rd_T39 l0 i:=⟨_,rfl⟩
    rw [← hX] at h hx0 hx1 hx2
    have r0:=eq_true d0
    have r1:=eq_true d1
    have HP:=Aside0.mk (fun W=>loops_hasParts.calls X.f0 X.f1 X.f2 _ W (hasParts_b X))
    have HB0:=Aside0.mk (Below.refl W.heap.size W)
    by_cases c4 : X.f0 = 4∨X.f0 = 5
    case neg =>
      rw [if_neg c4] at h
      rw [decide_eq_false c4] at HP
      obtain rfl:=Option.some.inj h
      clear ih hS hX d0 d1 d2 d3 d4 c4
      go_enter Try.func44,Try.ntmps44
      go_wp2_with (go_at_call 45;go_must ((with_reducible refine(HP.out _).mono ?_);rintro e w2 ⟨rfl,hB2⟩;have HB2:=Aside0.mk hB2;clear hB2))
      go_ret
      exact⟨rfl,HB2.out⟩
    rw [if_pos c4] at h
    rw [decide_eq_true c4] at HP
    have HKEEP := Aside0.mk (fun (W' : World) (hB : Below W.heap.size W W') => (show DepSt (some adt) c0 l0.length gt gv wc W' ∧ W'.cell? ⟨gt, 0, none⟩ = some (.slice (some adt) l0.length c0) ∧ W'.cell? ⟨gv, 0, none⟩ = some (.func (.func 44) #[] #[.pointer (some ⟨gt, 0, none⟩), .pointer (some ⟨gv, 0, none⟩)]) ∧ W'.cell? ⟨(adt.add (i.toNat * 3)).block, (adt.add (i.toNat * 3)).off + 1, none⟩ = some (.int .i64 X.f1) ∧ W'.cell? ⟨(adt.add (i.toNat * 3)).block, (adt.add (i.toNat * 3)).off + 2, none⟩ = some (.int .i64 X.f2) from
      ⟨hS.below hB,(bkC (hS.below hB).2.1 0).trans rfl,(bkC (hS.below hB).2.2 0).trans rfl,(hB.cell (World.block_lt_of_cell? W _ hx1)).trans hx1,(hB.cell (World.block_lt_of_cell? W _ hx2)).trans hx2⟩))
    by_cases c5 : left = 0
    · rw [if_pos c5] at h
      obtain rfl:=Option.some.inj h
      have c5b :(left == 0) = true:=beq_iff_eq.mpr c5
      clear ih hS hX d0 d1 d2 d3 d4 c4 c5
      go_enter Try.func44,Try.ntmps44
      go_wp2_with (go_at_call 45;go_must ((with_reducible refine(HP.out _).mono ?_);rintro e w2 ⟨rfl,hB2⟩;have HB2:=Aside0.mk hB2;have hk:=(HKEEP.out w2 hB2).2.1;clear hB2))
      go_ret
      exact⟨rfl,HB2.out⟩
    rw [if_neg c5] at h
    have c5b :(left == 0) = false:=beq_eq_false_iff_ne.mpr c5
    obtain ⟨l1,hl1⟩ : ∃ l1,l1 = left - 1:=⟨_,rfl⟩
    have hwl : IntKind.i64.wrap (left - 1) = l1:=by rw [hl1];exact IntWalk.i64_in _ (by omega)
    have hwl2 : wrap64 (left - 1) = l1:=by rw [hl1];unfold wrap64;omega
    rw [← hl1] at h
    replace h:=Option.bind_eq_some_iff.mp h
    obtain ⟨a,ha,h⟩:=h
    by_cases c6 : 0≤a∧a≤1000
    case neg=>rw [if_neg c6] at h;cases h
    rw [if_pos c6] at h
    have HV1:=Aside0.mk (fun(W : World) (hW : DepSt (some adt) c0 l0.length gt gv wc W)=>ih X.f1 l1 a W hW ha)
    by_cases c7 : a < l0.length
    case neg =>
      rw [if_neg c7] at h
      obtain rfl:=Option.some.inj h
      have c7b : decide (a < (l0.length : Int)) = false:=decide_eq_false c7
      have hwa : IntKind.i64.wrap (1 + a) = 1 + a:=IntWalk.i64_in _ (by omega)
      have hwa2 : wrap64 (1 + a) = 1 + a:=by unfold wrap64;omega
      have a0:=c6.1
      have a1:=c6.2
      clear ih hS hX d0 d1 d3 d4 c4 c5 ha c7 hl1 c6
      go_enter Try.func44,Try.ntmps44
      go_wp2_with (go_at_call 45;go_must ((with_reducible refine(HP.out _).mono ?_);rintro e w2 ⟨rfl,hB2⟩;have HB2:=Aside0.mk hB2;have hk2:=(HKEEP.out w2 hB2).2;clear hB2))
      obtain ⟨k1,k2,k3,k4⟩:=hk2
      refine wp_region_still_tail 8 (by kernel_rfl) (by kernel_rfl) ?_
      simp only [List.take_succ_cons,List.take_zero,List.drop_succ_cons,List.drop_zero]
      change wpStill _ _ (w2.drewN 1) _ _ _
      repeat still_step
      refine wpStill_nil ?_
      change wpList _ _ _ _ _ (w2.drewN 1)
      have HB3:=Aside0.mk (bwN HB2.out 1)
      go_wp2_with (go_at_call 44;go_must ((with_reducible refine(HV1.out _ (HKEEP.out _ HB3.out).1).mono ?_);rintro e w4 ⟨rfl,hB4⟩;have HB4:=Aside0.mk (below_then HB3.out HB3.out.size hB4);have hk4:=(HKEEP.out w4 HB4.out).2.1;clear hB4))
      all_goals (
        go_ret
        exact⟨ret_i64 (by first | rfl |(unfold mn;split <;> omega)),HB4.out⟩)
    rw [if_pos c7] at h
    replace h:=Option.bind_eq_some_iff.mp h
    obtain ⟨b,hb,h⟩:=h
    by_cases c8 : 0≤b∧b≤1000
    case neg=>rw [if_neg c8] at h;cases h
    rw [if_pos c8] at h
    obtain rfl:=Option.some.inj h
    have HV2:=Aside0.mk (fun(W : World) (hW : DepSt (some adt) c0 l0.length gt gv wc W)=>ih X.f2 l1 b W hW hb)
    have c7b : decide (a < (l0.length : Int)) = true:=decide_eq_true c7
    obtain ⟨mm,hmm⟩ : ∃ mm,mm = mx a b:=⟨_,rfl⟩
    have hm0 : 0≤mm∧mm≤1000:=by rw [hmm];unfold mx;split <;> omega
    have hif :(if a < b then b else a) = mm:=by rw [hmm];unfold mx;repeat' split <;> omega
    rw [← hmm]
    have hwa : IntKind.i64.wrap (1 + mm) = 1 + mm:=IntWalk.i64_in _ (by omega)
    have hwa2 : wrap64 (1 + mm) = 1 + mm:=by unfold wrap64;omega
    have a0:=hm0.1
    have a1:=hm0.2
    clear ih hS hX d0 d1 d3 d4 c4 c5 ha c7 hl1 c6 hb c8 hmm hm0
    go_enter Try.func44,Try.ntmps44
    go_wp2_with (go_at_call 45;go_must ((with_reducible refine(HP.out _).mono ?_);rintro e w2 ⟨rfl,hB2⟩;have HB2:=Aside0.mk hB2;have hk2:=(HKEEP.out w2 hB2).2;clear hB2))
    obtain ⟨k1,k2,k3,k4⟩:=hk2
    refine wp_region_still_tail 8 (by kernel_rfl) (by kernel_rfl) ?_
    simp only [List.take_succ_cons,List.take_zero,List.drop_succ_cons,List.drop_zero]
    change wpStill _ _ (w2.drewN 1) _ _ _
    repeat still_step
    refine wpStill_nil ?_
    change wpList _ _ _ _ _ (w2.drewN 1)
    have HB3:=Aside0.mk (bwN HB2.out 1)
    go_wp2_with (go_at_call 44;go_must ((with_reducible refine(HV1.out _ (HKEEP.out _ HB3.out).1).mono ?_);rintro e w4 ⟨rfl,hB4⟩;have HB4:=Aside0.mk (below_then HB3.out HB3.out.size hB4);have hk4:=(HKEEP.out w4 HB4.out).2;clear hB4))
    obtain ⟨m1,m2,m3,m4⟩:=hk4
    have HB5:=Aside0.mk (show Below W.heap.size W w4.drew from bwN HB4.out 1)
    refine start_ (n:=12) (S:=fun w'=>w'.cell? ⟨gt,0,none⟩ = some (.slice (some adt) l0.length c0)∧w'.cell? ⟨gv,0,none⟩ = some (.func (.func 44) #[] #[.pointer (some ⟨gt,0,none⟩),.pointer (some ⟨gv,0,none⟩)])∧w'.cell? ⟨(adt.add (i.toNat * 3)).block,(adt.add (i.toNat * 3)).off + 1,none⟩ = some (.int .i64 X.f1)∧w'.cell? ⟨(adt.add (i.toNat * 3)).block,(adt.add (i.toNat * 3)).off + 2,none⟩ = some (.int .i64 X.f2)) (ds:=[]) #[false,false,false,false,false,false,false,false,false,false,false,false] (by kernel_rfl) rfl rfl (HKEEP.out _ HB5.out).2 (fun hHeld=>?_)
    refine pure_ (i:=0) (N:=some 31) (v:=?_) (a':=?_) #[true,false,false,false,false,false,false,false,false,false,false,false] rfl rfl (by kernel_rfl) (fun _ _ _ h=>h) (Or.inl ⟨by rfl,?_⟩) ?_ ?_
    rotate_left
    · intro w'
      go_simp
      with_reducible rfl
    rotate_left
    · simp only [Act.put, List.setIfInBounds_toArray, List.set_cons_zero, List.set_cons_succ, i64_w, i32_w]
      rfl
    refine take_ (i:=1) (N:=some 32) (v:=?_) (a':=?_) #[true,true,false,false,false,false,false,false,false,false,false,false] rfl rfl (by kernel_rfl) (fun _ _ _ h=>h) (Or.inl ⟨by rfl,?_⟩) hHeld ?_ ?_
    rotate_left
    · rintro w' ⟨s0, s1, s2, s3⟩
      go_simp
      with_reducible rfl
    rotate_left
    · simp only [Act.put, List.setIfInBounds_toArray, List.set_cons_zero, List.set_cons_succ, i64_w, i32_w]
      rfl
    refine take_ (i:=2) (N:=some 33) (v:=?_) (a':=?_) #[true,true,true,false,false,false,false,false,false,false,false,false] rfl rfl (by kernel_rfl) (fun _ _ _ h=>h) (Or.inl ⟨by rfl,?_⟩) hHeld ?_ ?_
    rotate_left
    · rintro w' ⟨s0, s1, s2, s3⟩
      go_simp
      with_reducible rfl
    rotate_left
    · simp only [Act.put, List.setIfInBounds_toArray, List.set_cons_zero, List.set_cons_succ, i64_w, i32_w]
      rfl
    refine pure_ (i:=3) (N:=some 34) (v:=?_) (a':=?_) #[true,true,true,true,false,false,false,false,false,false,false,false] rfl rfl (by kernel_rfl) (fun _ _ _ h=>h) (Or.inl ⟨by rfl,?_⟩) ?_ ?_
    rotate_left
    · intro w'
      go_simp
      with_reducible rfl
    rotate_left
    · simp only [Act.put, List.setIfInBounds_toArray, List.set_cons_zero, List.set_cons_succ, i64_w, i32_w]
      rfl
    refine pure_ (i:=4) (N:=some 35) (v:=?_) (a':=?_) #[true,true,true,true,true,false,false,false,false,false,false,false] rfl rfl (by kernel_rfl) (fun _ _ _ h=>h) (Or.inl ⟨by rfl,?_⟩) ?_ ?_
    rotate_left
    · intro w'
      go_simp
      with_reducible rfl
    rotate_left
    · simp only [Act.put, List.setIfInBounds_toArray, List.set_cons_zero, List.set_cons_succ, i64_w, i32_w]
      rfl
    refine pure_ (i:=5) (N:=some 36) (v:=?_) (a':=?_) #[true,true,true,true,true,true,false,false,false,false,false,false] rfl rfl (by kernel_rfl) (fun _ _ _ h=>h) (Or.inl ⟨by rfl,?_⟩) ?_ ?_
    rotate_left
    · intro w'
      go_simp
      with_reducible rfl
    rotate_left
    · simp only [Act.put, List.setIfInBounds_toArray, List.set_cons_zero, List.set_cons_succ, i64_w, i32_w]
      rfl
    refine take_ (i:=6) (N:=some 37) (v:=?_) (a':=?_) #[true,true,true,true,true,true,true,false,false,false,false,false] rfl rfl (by kernel_rfl) (fun _ _ _ h=>h) (Or.inl ⟨by rfl,?_⟩) hHeld ?_ ?_
    rotate_left
    · rintro w' ⟨s0, s1, s2, s3⟩
      go_simp
      with_reducible rfl
    rotate_left
    · simp only [Act.put, List.setIfInBounds_toArray, List.set_cons_zero, List.set_cons_succ, i64_w, i32_w]
      rfl
    refine pure_ (i:=7) (N:=some 38) (v:=?_) (a':=?_) #[true,true,true,true,true,true,true,true,false,false,false,false] rfl rfl (by kernel_rfl) (fun _ _ _ h=>h) (Or.inl ⟨by rfl,?_⟩) ?_ ?_
    rotate_left
    · intro w'
      go_simp
      with_reducible rfl
    rotate_left
    · simp only [Act.put, List.setIfInBounds_toArray, List.set_cons_zero, List.set_cons_succ, i64_w, i32_w]
      rfl
    refine pure_ (i:=8) (N:=some 39) (v:=?_) (a':=?_) #[true,true,true,true,true,true,true,true,true,false,false,false] rfl rfl (by kernel_rfl) (fun _ _ _ h=>h) (Or.inl ⟨by rfl,?_⟩) ?_ ?_
    rotate_left
    · intro w'
      go_simp
      with_reducible rfl
    rotate_left
    · simp only [Act.put, List.setIfInBounds_toArray, List.set_cons_zero, List.set_cons_succ, i64_w, i32_w]
      rfl
    refine one_ (i:=9) (N:=some 40) #[true,true,true,true,true,true,true,true,true,true,false,false] rfl rfl (by kernel_rfl) (by decide) (fun K hK=>?_)
    go_simp
    go_at_call 44
    (with_reducible refine(HV2.out _ (HKEEP.out _ HB5.out).1).mono ?_)
    rintro e w6 ⟨rfl,hB6⟩
    have HB6:=Aside0.mk (below_then HB5.out HB5.out.size hB6)
    clear hB6
    refine hK.out _ _ (HKEEP.out w6 HB6.out).2 (fun hHeld=>?_)
    clear hK K
    refine pure_ (i:=10) (N:=some 41) (v:=?_) (a':=?_) #[true,true,true,true,true,true,true,true,true,true,true,false] rfl rfl (by kernel_rfl) (fun _ _ _ h=>h) (Or.inl ⟨by rfl,?_⟩) ?_ ?_
    rotate_left
    · intro w'
      go_simp
      with_reducible rfl
    rotate_left
    · simp only [Act.put, List.setIfInBounds_toArray, List.set_cons_zero, List.set_cons_succ, i64_w, i32_w]
      rfl
    refine pure_ (i:=11) (N:=some 7) (v:=?_) (a':=?_) #[true,true,true,true,true,true,true,true,true,true,true,true] rfl rfl (by kernel_rfl) (fun _ _ _ h=>h) (Or.inl ⟨by rfl,?_⟩) ?_ ?_
    rotate_left
    · intro w'
      go_simp
      with_reducible rfl
    rotate_left
    · simp only [Act.put, List.setIfInBounds_toArray, List.set_cons_zero, List.set_cons_succ, i64_w, i32_w]
      rfl
    refine done_ (by kernel_rfl) ?_
    have hk6:=(HKEEP.out w6 HB6.out).2.1
    clear hHeld
    go_wp2
    all_goals (
      go_ret
      exact⟨ret_i64 (by first | rfl |(unfold mn;split <;> omega)),HB6.out⟩)
set_option maxHeartbeats 2000000 in
set_option maxRecDepth 100000 in
theorem loops_Depth.calls (k : Nat) (A0 : Option Addr) (c0 : Nat) (l0 : List S39) (a1 : Int) (r1 r2 : Int) (w : World) (hr0 : Kd.C k39 w A0 l0.length l0) (hc0 : l0.length ≤ c0) (h : loops_Depth.f k l0 a1 = some (r1, r2)) :
    Calls Try.prog 28 #[.slice A0 l0.length c0,.int .i64 a1] w fun e w'=>e = .returned (.tuple #[.int .i64 r1,.int .i64 r2])∧Below w.heap.size w w':=by
  unfold loops_Depth.f at h
  replace h:=Option.bind_eq_some_iff.mp h
  obtain ⟨ok,hok,h⟩:=h
  obtain ⟨W,hW⟩ : ∃ W,W =(w.alloc (.cells #[.slice A0 l0.length c0] 22)).alloc (.cells #[.int .i64 a1] 3):=⟨_,rfl⟩
  have hBW : Below w.heap.size w W:=by rw [hW];exact bwA (bwA (Below.refl _ _) _) _
  have hg2 : W.heap[w.heap.size]? = some (.cells #[.slice A0 l0.length c0] 22 (0,0)):=by rw [hW];exact bkB (heap_alloc_new w _) (bwA (Below.refl _ _) _)
  have hcl : Kd.C (Kd.int .i64) W (some ⟨w.heap.size + 1,0,none⟩) [a1].length [a1]:=by
    have:=(Kd.R_reads' (lit_row (w.alloc (.cells #[.slice A0 l0.length c0] 22)) a1)).2.2
    rw [hW]
    simpa using this
  have HN:=Aside0.mk (show Calls Try.prog 40 #[.slice A0 l0.length c0,.slice (some ⟨w.heap.size + 1,0,none⟩) 1 1] W (fun e w'=>e = .returned (.bool ok)∧Below W.heap.size W w') from loops_areNodes.calls k A0 c0 l0 (some ⟨w.heap.size + 1,0,none⟩) 1 [a1] ok W (Kd.C_below hr0 hBW) hc0 hcl (by simp) hok)
  have HBW:=Aside0.mk hBW
  have HG2:=Aside0.mk hg2
  have HR0:=Aside0.mk hr0
  have HC0:=Aside0.mk hc0
  have hct : W.cell? ⟨w.heap.size,0,none⟩ = some (.slice A0 l0.length c0):=(bkC hg2 0).trans rfl
  subst hW
  have hmf : ∀ (fn : Fn) (first cap : Array Value) (w : World),(Instr.makeFunc fn first cap).run Try.prog w = .ok (.func fn first cap) w:=fun _ _ _ _=>rfl
  clear hBW hg2 hcl hok hr0 hc0
  cases ok with
  | false =>
    rw [if_neg (by decide)] at h
    injection h with h
    injection h with e1 e2
    subst e1;subst e2
    go_enter Try.func28,Try.ntmps28
    go_wp2_with (go_at_call 40;go_must ((with_reducible refine HN.out.mono ?_);rintro e w1 ⟨rfl,hB1⟩;have HB1:=Aside0.mk (below_then HBW.out HBW.out.size hB1);clear hB1))
    go_ret2
    exact⟨rfl,HB1.out⟩
  | true =>
    rw [if_pos rfl] at h
    replace h:=Option.bind_eq_some_iff.mp h
    obtain ⟨cy,hcy,h⟩:=h
    have HCY:=Aside0.mk (fun(W : World) (hB : Below w.heap.size w W)=>loops_onCycle.calls A0 c0 l0 a1 cy W (Kd.C_below HR0.out hB) HC0.out hcy)
    cases cy with
    | true =>
      rw [if_pos rfl] at h
      injection h with h
      injection h with e1 e2
      subst e1;subst e2
      clear hcy
      go_enter Try.func28,Try.ntmps28
      go_wp2_with (first
        |(go_at_call 40;go_must (
            (with_reducible refine HN.out.mono ?_);rintro e w1 ⟨rfl,hB1⟩;
            have hg1:=bkB HG2.out hB1;
            have HB1:=Aside0.mk (bwA (below_then HBW.out HBW.out.size hB1) (.cells #[.func (.func 44) #[] #[.pointer (some ⟨w.heap.size,0,none⟩),.pointer (some ⟨w1.heap.size,0,none⟩)]] 40));
            have hct1 :(w1.alloc (.cells #[.func (.func 44) #[] #[.pointer (some ⟨w.heap.size,0,none⟩),.pointer (some ⟨w1.heap.size,0,none⟩)]] 40)).cell? ⟨w.heap.size,0,none⟩ = some (.slice A0 l0.length c0):=(bkC (bkB hg1 (bwA (Below.refl _ _) _)) 0).trans rfl;
            clear hB1 hg1))
        |(go_at_call 46;go_must ((with_reducible refine(HCY.out _ HB1.out).mono ?_);rintro e w3 ⟨rfl,hB3⟩;have HB3:=Aside0.mk (below_then HB1.out HB1.out.size hB3);clear hB3)))
      go_ret2
      exact⟨rfl,HB3.out⟩
    | false =>
      rw [if_neg (by decide)] at h
      replace h:=Option.bind_eq_some_iff.mp h
      obtain ⟨d,hd,h⟩:=h
      injection h with h
      injection h with e1 e2
      subst e1;subst e2
      have HD:=Aside0.mk hd
      clear hcy hd
      go_enter Try.func28,Try.ntmps28
      go_wp2_with (first
        |(go_at_call 40;go_must (
            (with_reducible refine HN.out.mono ?_);rintro e w1 ⟨rfl,hB1⟩;
            have hg1:=bkB HG2.out hB1;
            have HB1:=Aside0.mk (bwA (below_then HBW.out HBW.out.size hB1) (.cells #[.func (.func 44) #[] #[.pointer (some ⟨w.heap.size,0,none⟩),.pointer (some ⟨w1.heap.size,0,none⟩)]] 40));
            have HG1:=Aside0.mk (bkB hg1 (bwA (Below.refl _ _) (.cells #[.func (.func 44) #[] #[.pointer (some ⟨w.heap.size,0,none⟩),.pointer (some ⟨w1.heap.size,0,none⟩)]] 40)));
            have HGV:=Aside0.mk (heap_alloc_new w1 (.cells #[.func (.func 44) #[] #[.pointer (some ⟨w.heap.size,0,none⟩),.pointer (some ⟨w1.heap.size,0,none⟩)]] 40));
            have hct1 :(w1.alloc (.cells #[.func (.func 44) #[] #[.pointer (some ⟨w.heap.size,0,none⟩),.pointer (some ⟨w1.heap.size,0,none⟩)]] 40)).cell? ⟨w.heap.size,0,none⟩ = some (.slice A0 l0.length c0):=(bkC HG1.out 0).trans rfl;
            clear hB1 hg1))
        |(go_at_call 46;go_must (
            (with_reducible refine(HCY.out _ HB1.out).mono ?_);rintro e w3 ⟨rfl,hB3⟩;
            have hg3:=bkB HG1.out hB3;
            have hv3:=bkB HGV.out hB3;
            have hct3 : w3.cell? ⟨w.heap.size,0,none⟩ = some (.slice A0 l0.length c0):=(bkC hg3 0).trans rfl;
            have hcv3:=(bkC hv3 0).trans rfl;
            have HB3:=Aside0.mk (below_then HB1.out HB1.out.size hB3);
            have HDP:=Aside0.mk (depth_fn.calls l0 A0 c0 w.heap.size w1.heap.size w HR0.out 100 a1 (l0.length : Int) d w3 ⟨HB3.out,hg3,hv3⟩ HD.out);
            clear hB3 hg3 hv3))
        |(go_at_call 44;go_must ((with_reducible refine HDP.out.mono ?_);rintro e w5 ⟨rfl,hB5⟩;have HB5:=Aside0.mk (below_then HB3.out HB3.out.size hB5);clear hB5)))
      go_ret2
      exact⟨rfl,HB5.out⟩

def w06_awake.j0 : Nat → Bool → Option (Bool)
 | 0,_=>none
 | k + 1,x87=>if x87 = true then(some false) else(some true)
def w06_awake.f (k : Nat)  : Option (Bool):=(some (([(⟨4,1,0⟩ : S39),(⟨2,0,0⟩ : S39),(⟨3,0,0⟩ : S39),(⟨5,4,1⟩ : S39),(⟨1,0,0⟩ : S39),(⟨5,1,4⟩ : S39)] : List (S39)) : List (S39))).bind fun y167=>((loops_Sub.f k y167 1 2).bind fun bt170=>((loops_Sub.f k y167 3 5).bind fun bt177=>((loops_Canonical.f k y167 0).bind fun bt184=>((loops_Depth.f k y167 3).bind fun bt188=>((loops_Depth.f k y167 0).bind fun bt190=>(if bt170.2.2.2 = 0 then(if bt170.1 = true then(w06_awake.j0 k true) else(if bt170.2.2.1.toList =([] : List UInt8) then(if bt177.2.2.2 = 0 then(if bt177.1 = true then(if bt184.2 = 0 then((w06_types.f k bt184.1 (([(⟨4,1,0⟩ : S39),(⟨2,0,0⟩ : S39)] : List (S39)))).bind fun t195=>(if t195 = true then(if bt188.2 = 0 then(if bt188.1 = 1 then(w06_awake.j0 k (bt190.2 != 6)) else(w06_awake.j0 k true)) else(w06_awake.j0 k true)) else(w06_awake.j0 k true))) else(w06_awake.j0 k true)) else(w06_awake.j0 k true)) else(w06_awake.j0 k true)) else(w06_awake.j0 k true))) else(w06_awake.j0 k true)))))))
theorem w06_awake.mono_l : ∀ k, (∀ y0, LeO (w06_awake.j0 k y0) (w06_awake.j0 (k + 1) y0))
 | 0=>fun _ r h=>by simp [w06_awake.j0] at h
 | k + 1=>by
  have ih0:=w06_awake.mono_l k
  ·intro y0
   unfold w06_awake.j0
   repeat' first
   |(with_reducible exact ih0 _)
   |(with_reducible exact loops_Canonical.mono _ _ _)
   |(with_reducible exact loops_Depth.mono _ _ _)
   |(with_reducible exact loops_Sub.mono _ _ _ _)
   |(with_reducible exact w06_types.mono _ _ _)
   |(with_reducible exact LeO.refl _)
   |(with_reducible exact LeO.none _)
   |(with_reducible refine LeO.ite ?_ ?_)
   |(with_reducible refine LeO.bind ?_ (fun _=>?_))
   | exact ih0 _
   | exact loops_Canonical.mono _ _ _
   | exact loops_Depth.mono _ _ _
   | exact loops_Sub.mono _ _ _ _
   | exact w06_types.mono _ _ _
   | exact LeO.none _
   | refine LeO.ite ?_ ?_
   | refine LeO.bind ?_ (fun _=>?_)
theorem w06_awake.mono : ∀ k,LeO (w06_awake.f k ) (w06_awake.f (k + 1) ):=by
 intro  k
 have ih0:=w06_awake.mono_l k
 unfold w06_awake.f
 repeat' first
   |(with_reducible exact ih0 _)
   |(with_reducible exact loops_Canonical.mono _ _ _)
   |(with_reducible exact loops_Depth.mono _ _ _)
   |(with_reducible exact loops_Sub.mono _ _ _ _)
   |(with_reducible exact w06_types.mono _ _ _)
   |(with_reducible exact LeO.refl _)
   |(with_reducible exact LeO.none _)
   |(with_reducible refine LeO.ite ?_ ?_)
   |(with_reducible refine LeO.bind ?_ (fun _=>?_))
   | exact ih0 _
   | exact loops_Canonical.mono _ _ _
   | exact loops_Depth.mono _ _ _
   | exact loops_Sub.mono _ _ _ _
   | exact w06_types.mono _ _ _
   | exact LeO.none _
   | refine LeO.ite ?_ ?_
   | refine LeO.bind ?_ (fun _=>?_)
set_option maxHeartbeats 8000000 in
set_option maxRecDepth 100000 in
theorem w06_awake.calls (k : Nat)  (r : Bool) (w : World) (h : w06_awake.f k  = some r) :
  Calls Try.prog 19 #[] w fun e w'=>e = .returned (.bool r)∧Below w.heap.size w w':=by
 have hu39:=Try.underlying39
 have hu55:=Try.underlying55
 have HB:=Aside0.mk (Below.refl w.heap.size w)
 have H :((some (([(⟨4,1,0⟩ : S39),(⟨2,0,0⟩ : S39),(⟨3,0,0⟩ : S39),(⟨5,4,1⟩ : S39),(⟨1,0,0⟩ : S39),(⟨5,1,4⟩ : S39)] : List (S39)) : List (S39))).bind fun y167=>((loops_Sub.f k y167 1 2).bind fun bt170=>((loops_Sub.f k y167 3 5).bind fun bt177=>((loops_Canonical.f k y167 0).bind fun bt184=>((loops_Depth.f k y167 3).bind fun bt188=>((loops_Depth.f k y167 0).bind fun bt190=>(if bt170.2.2.2 = 0 then(if bt170.1 = true then(w06_awake.j0 k true) else(if bt170.2.2.1.toList =([] : List UInt8) then(if bt177.2.2.2 = 0 then(if bt177.1 = true then(if bt184.2 = 0 then((w06_types.f k bt184.1 (([(⟨4,1,0⟩ : S39),(⟨2,0,0⟩ : S39)] : List (S39)))).bind fun t195=>(if t195 = true then(if bt188.2 = 0 then(if bt188.1 = 1 then(w06_awake.j0 k (bt190.2 != 6)) else(w06_awake.j0 k true)) else(w06_awake.j0 k true)) else(w06_awake.j0 k true))) else(w06_awake.j0 k true)) else(w06_awake.j0 k true)) else(w06_awake.j0 k true)) else(w06_awake.j0 k true))) else(w06_awake.j0 k true)))))))) = some r:=h
 clear h
 obtain ⟨y167,hy167⟩ : ∃ y_ : List (S39),y_ =(([(⟨4,1,0⟩ : S39),(⟨2,0,0⟩ : S39),(⟨3,0,0⟩ : S39),(⟨5,4,1⟩ : S39),(⟨1,0,0⟩ : S39),(⟨5,1,4⟩ : S39)] : List (S39))):=⟨_,rfl⟩
 replace H :((loops_Sub.f k y167 1 2).bind fun bt170=>((loops_Sub.f k y167 3 5).bind fun bt177=>((loops_Canonical.f k y167 0).bind fun bt184=>((loops_Depth.f k y167 3).bind fun bt188=>((loops_Depth.f k y167 0).bind fun bt190=>(if bt170.2.2.2 = 0 then(if bt170.1 = true then(w06_awake.j0 k true) else(if bt170.2.2.1.toList =([] : List UInt8) then(if bt177.2.2.2 = 0 then(if bt177.1 = true then(if bt184.2 = 0 then((w06_types.f k bt184.1 (([(⟨4,1,0⟩ : S39),(⟨2,0,0⟩ : S39)] : List (S39)))).bind fun t195=>(if t195 = true then(if bt188.2 = 0 then(if bt188.1 = 1 then(w06_awake.j0 k (bt190.2 != 6)) else(w06_awake.j0 k true)) else(w06_awake.j0 k true)) else(w06_awake.j0 k true))) else(w06_awake.j0 k true)) else(w06_awake.j0 k true)) else(w06_awake.j0 k true)) else(w06_awake.j0 k true))) else(w06_awake.j0 k true))))))) = some r:=by first |(rw [hy167];with_reducible exact H) |(have H2_:=(Option.bind_some _ _).symm.trans H;rw [hy167];with_reducible exact H2_) |(have H2_:=(Option.bind_some _ _).symm.trans H;with_reducible exact H2_) | with_reducible exact H |(rw [hy167];exact H) | exact H
 have Ny167:=Aside0.mk hy167
 clear hy167
 replace H:=Option.bind_eq_some_iff.mp H
 obtain ⟨⟨t170,t171,t174,t175⟩,A10,H⟩:=H
 replace H :((loops_Sub.f k y167 3 5).bind fun bt177=>((loops_Canonical.f k y167 0).bind fun bt184=>((loops_Depth.f k y167 3).bind fun bt188=>((loops_Depth.f k y167 0).bind fun bt190=>(if t175 = 0 then(if t170 = true then(w06_awake.j0 k true) else(if t174.toList =([] : List UInt8) then(if bt177.2.2.2 = 0 then(if bt177.1 = true then(if bt184.2 = 0 then((w06_types.f k bt184.1 (([(⟨4,1,0⟩ : S39),(⟨2,0,0⟩ : S39)] : List (S39)))).bind fun t195=>(if t195 = true then(if bt188.2 = 0 then(if bt188.1 = 1 then(w06_awake.j0 k (bt190.2 != 6)) else(w06_awake.j0 k true)) else(w06_awake.j0 k true)) else(w06_awake.j0 k true))) else(w06_awake.j0 k true)) else(w06_awake.j0 k true)) else(w06_awake.j0 k true)) else(w06_awake.j0 k true))) else(w06_awake.j0 k true)))))) = some r:=H
 have A1:=Aside0.mk A10
 clear A10
 replace H:=Option.bind_eq_some_iff.mp H
 obtain ⟨⟨t177,t178,t181,t182⟩,A20,H⟩:=H
 replace H :((loops_Canonical.f k y167 0).bind fun bt184=>((loops_Depth.f k y167 3).bind fun bt188=>((loops_Depth.f k y167 0).bind fun bt190=>(if t175 = 0 then(if t170 = true then(w06_awake.j0 k true) else(if t174.toList =([] : List UInt8) then(if t182 = 0 then(if t177 = true then(if bt184.2 = 0 then((w06_types.f k bt184.1 (([(⟨4,1,0⟩ : S39),(⟨2,0,0⟩ : S39)] : List (S39)))).bind fun t195=>(if t195 = true then(if bt188.2 = 0 then(if bt188.1 = 1 then(w06_awake.j0 k (bt190.2 != 6)) else(w06_awake.j0 k true)) else(w06_awake.j0 k true)) else(w06_awake.j0 k true))) else(w06_awake.j0 k true)) else(w06_awake.j0 k true)) else(w06_awake.j0 k true)) else(w06_awake.j0 k true))) else(w06_awake.j0 k true))))) = some r:=H
 have A2:=Aside0.mk A20
 clear A20
 replace H:=Option.bind_eq_some_iff.mp H
 obtain ⟨⟨t184,t185⟩,A30,H⟩:=H
 replace H :((loops_Depth.f k y167 3).bind fun bt188=>((loops_Depth.f k y167 0).bind fun bt190=>(if t175 = 0 then(if t170 = true then(w06_awake.j0 k true) else(if t174.toList =([] : List UInt8) then(if t182 = 0 then(if t177 = true then(if t185 = 0 then((w06_types.f k t184 (([(⟨4,1,0⟩ : S39),(⟨2,0,0⟩ : S39)] : List (S39)))).bind fun t195=>(if t195 = true then(if bt188.2 = 0 then(if bt188.1 = 1 then(w06_awake.j0 k (bt190.2 != 6)) else(w06_awake.j0 k true)) else(w06_awake.j0 k true)) else(w06_awake.j0 k true))) else(w06_awake.j0 k true)) else(w06_awake.j0 k true)) else(w06_awake.j0 k true)) else(w06_awake.j0 k true))) else(w06_awake.j0 k true)))) = some r:=H
 have A3:=Aside0.mk A30
 clear A30
 replace H:=Option.bind_eq_some_iff.mp H
 obtain ⟨⟨t188,t189⟩,A40,H⟩:=H
 replace H :((loops_Depth.f k y167 0).bind fun bt190=>(if t175 = 0 then(if t170 = true then(w06_awake.j0 k true) else(if t174.toList =([] : List UInt8) then(if t182 = 0 then(if t177 = true then(if t185 = 0 then((w06_types.f k t184 (([(⟨4,1,0⟩ : S39),(⟨2,0,0⟩ : S39)] : List (S39)))).bind fun t195=>(if t195 = true then(if t189 = 0 then(if t188 = 1 then(w06_awake.j0 k (bt190.2 != 6)) else(w06_awake.j0 k true)) else(w06_awake.j0 k true)) else(w06_awake.j0 k true))) else(w06_awake.j0 k true)) else(w06_awake.j0 k true)) else(w06_awake.j0 k true)) else(w06_awake.j0 k true))) else(w06_awake.j0 k true))) = some r:=H
 have A4:=Aside0.mk A40
 clear A40
 replace H:=Option.bind_eq_some_iff.mp H
 obtain ⟨⟨t190,t191⟩,A50,H⟩:=H
 replace H :(if t175 = 0 then(if t170 = true then(w06_awake.j0 k true) else(if t174.toList =([] : List UInt8) then(if t182 = 0 then(if t177 = true then(if t185 = 0 then((w06_types.f k t184 (([(⟨4,1,0⟩ : S39),(⟨2,0,0⟩ : S39)] : List (S39)))).bind fun t195=>(if t195 = true then(if t189 = 0 then(if t188 = 1 then(w06_awake.j0 k (t191 != 6)) else(w06_awake.j0 k true)) else(w06_awake.j0 k true)) else(w06_awake.j0 k true))) else(w06_awake.j0 k true)) else(w06_awake.j0 k true)) else(w06_awake.j0 k true)) else(w06_awake.j0 k true))) else(w06_awake.j0 k true)) = some r:=H
 have A5:=Aside0.mk A50
 clear A50
 have HC6:=Aside0.mk H
 clear H
 go_enter Try.func19,Try.ntmps19
 go_upto_region 7 with (first |((with_reducible refine gate_dst (N:=18) rfl ?_);(try(refine gate_guard (by rfl) ?_;dsimp only));refine Kd.R_lit k39 _ 39 ?hg (N:=18) ?hd (xs:=([(⟨4,1,0⟩ : S39),(⟨2,0,0⟩ : S39),(⟨3,0,0⟩ : S39),(⟨5,4,1⟩ : S39),(⟨1,0,0⟩ : S39),(⟨5,1,4⟩ : S39)] : List (S39))) (inner:=[.int .i64 4,.int .i64 1,.int .i64 0,.int .i64 2,.int .i64 0,.int .i64 0,.int .i64 3,.int .i64 0,.int .i64 0,.int .i64 5,.int .i64 4,.int .i64 1,.int .i64 1,.int .i64 0,.int .i64 0,.int .i64 5,.int .i64 1,.int .i64 4]) (ok:=fun _=>True) (okp:=fun _=>True) ?hr ?hp (fun _ hk=>hk) trivial (Below.refl _ _) (Nat.le_refl _) (by simp) ?_;(case hd=>rfl);(case hg=>rfl);(case hr=>first |(go_simp;done) |(go_simp;rfl));(case hp=>exact(Reps.c3 (show Kd.M k39 _ _ _ (⟨4,1,0⟩ : S39) [.int .i64 4,.int .i64 1,.int .i64 0] from(k39_mkM _ _ _ (⟨4,1,0⟩ : S39) )) (Reps.c3 (show Kd.M k39 _ _ _ (⟨2,0,0⟩ : S39) [.int .i64 2,.int .i64 0,.int .i64 0] from(k39_mkM _ _ _ (⟨2,0,0⟩ : S39) )) (Reps.c3 (show Kd.M k39 _ _ _ (⟨3,0,0⟩ : S39) [.int .i64 3,.int .i64 0,.int .i64 0] from(k39_mkM _ _ _ (⟨3,0,0⟩ : S39) )) (Reps.c3 (show Kd.M k39 _ _ _ (⟨5,4,1⟩ : S39) [.int .i64 5,.int .i64 4,.int .i64 1] from(k39_mkM _ _ _ (⟨5,4,1⟩ : S39) )) (Reps.c3 (show Kd.M k39 _ _ _ (⟨1,0,0⟩ : S39) [.int .i64 1,.int .i64 0,.int .i64 0] from(k39_mkM _ _ _ (⟨1,0,0⟩ : S39) )) (Reps.c3 (show Kd.M k39 _ _ _ (⟨5,1,4⟩ : S39) [.int .i64 5,.int .i64 1,.int .i64 4] from(k39_mkM _ _ _ (⟨5,1,4⟩ : S39) )) (Reps.none _ _))))))));intro v168 w7 ho8 hb hg_ hnew_;clear hg_ hnew_;(first | rw [← Ny167.out] at ho8 |(simp only [Int.reduceToNat] at ho8;rw [← Ny167.out] at ho8));have n0_:=Aside0.mk (Kd.R_lower ho8 (bwZ (by repeat(first |(with_reducible first | exact HB.out | apply bwA | apply bwN | apply bw1) | exact HB.out))));have n1_:=Aside0.mk (bwT (by repeat(first |(with_reducible first | exact HB.out | apply bwA | apply bwN | apply bw1) | exact HB.out)) hb);clear HB;have HO169:=n0_;have HB:=n1_;clear n0_ n1_;clear hb ho8;obtain ⟨Ao9,co9,eo9⟩:=Kd.R_slice HO169.out;subst eo9) |((with_reducible refine gate_callee (f:=33) rfl ?_);refine goesL_ (some 21) rfl rfl Try.func33 (by kernel_rfl) rfl #[.slice Ao9 y167.length co9,.int .i64 1,.int .i64 2] rfl (by(try simp only [List.map_toArray,List.map_cons,List.map_nil]);first | done | rfl |(simp only [List.length_drop,List.length_take];rfl)) ?_;(with_reducible refine(loops_Sub.calls k _ _ y167 1 2 t170 t171 t174 t175 _ ?side1 ?side2 A1.out).mono ?_);(case side1=>repeat(first | exact(Kd.R_reads' HO169.out).2.2 |(with_reducible refine Kd.C_alloc ?_ _) |(with_reducible refine Kd.C_drewN ?_ _) |(with_reducible refine Kd.C_drew ?_)));(case side2=>exact(Kd.R_reads' HO169.out).2.1);rintro e w10 ⟨v172,rfl,ho0,hb⟩;refine⟨_,rfl,?_⟩;have n0_:=Aside0.mk (Kd.R_below (by(with_reducible repeat(first | apply Kd.R_alloc | apply Kd.R_drewN | apply Kd.R_drew));exact HO169.out) hb);have n1_:=Aside0.mk (Kd.R_lower ho0 (bwZ (by repeat(first |(with_reducible first | exact HB.out | apply bwA | apply bwN | apply bw1) | exact HB.out))));have n2_:=Aside0.mk (bwT (by repeat(first |(with_reducible first | exact HB.out | apply bwA | apply bwN | apply bw1) | exact HB.out)) hb);clear HO169;clear HB;have HO169:=n0_;have HO173:=n1_;have HB:=n2_;clear n0_ n1_ n2_;(try clear hb);(try clear hb2);(try clear hk);(try clear hi);(try clear ho0)) |((with_reducible refine gate_dst (N:=2) rfl ?_);(try(refine gate_guard (by rfl) ?_;dsimp only));refine box_event ?hg (N:=2) ?hd (cs:=#[.bool false,.slice none 0 0,.string (⟨#[]⟩ : ByteArray)]) (t:=55) ?hr ?_;(case hd=>rfl);(case hg=>rfl);(case hr=>first |(go_simp;done) |(go_simp;rfl));intro gb176 hg w11 hbox hb;have n0_:=Aside0.mk (Kd.R_below (by(with_reducible repeat(first | apply Kd.R_alloc | apply Kd.R_drewN | apply Kd.R_drew));exact HO169.out) hb);have n1_:=Aside0.mk (Kd.R_below (by(with_reducible repeat(first | apply Kd.R_alloc | apply Kd.R_drewN | apply Kd.R_drew));exact HO173.out) hb);have n2_:=Aside0.mk (bwT (by repeat(first |(with_reducible first | exact HB.out | apply bwA | apply bwN | apply bw1) | exact HB.out)) hb);have n3_:=Aside0.mk (hbox);have n4_:=Aside0.mk ((by rw [hg];exact(bwZ (by repeat(first |(with_reducible first | exact HB.out | apply bwA | apply bwN | apply bw1) | exact HB.out))) : w.heap.size≤gb176));have n5_:=Aside0.mk ((by rw [hg];exact(bwZ (by repeat(first |(with_reducible first | exact HB.out | apply bwA | apply bwN | apply bw1) | exact HB.out))) : w.heap.size≤gb176));clear HO169;clear HO173;clear HB;have HO169:=n0_;have HO173:=n1_;have HB:=n2_;have BK176:=n3_;have GW176:=n4_;have GE176:=n5_;clear n0_ n1_ n2_ n3_ n4_ n5_;clear hb hbox hg;have hcz12_0 : w11.cell? ⟨gb176,0,none⟩ = some (.bool false):=(bkC BK176.out 0).trans rfl;have hcz12_1 : w11.cell? ⟨gb176,1,none⟩ = some (.slice none 0 0):=(bkC BK176.out 1).trans rfl;have hcz12_2 : w11.cell? ⟨gb176,2,none⟩ = some (.string (⟨#[]⟩ : ByteArray)):=(bkC BK176.out 2).trans rfl;have hfz12_0:=bkF BK176.out 0;have hfz12_1:=bkF BK176.out 1;have hfz12_2:=bkF BK176.out 2;obtain ⟨Ao13,co13,eo13⟩:=Kd.R_slice HO173.out;subst eo13) |((with_reducible refine gate_callee (f:=33) rfl ?_);refine goesL_ (some 26) rfl rfl Try.func33 (by kernel_rfl) rfl #[.slice Ao9 y167.length co9,.int .i64 3,.int .i64 5] rfl (by(try simp only [List.map_toArray,List.map_cons,List.map_nil]);first | done | rfl |(simp only [List.length_drop,List.length_take];rfl)) ?_;(with_reducible refine(loops_Sub.calls k _ _ y167 3 5 t177 t178 t181 t182 _ ?side1 ?side2 A2.out).mono ?_);(case side1=>refine(Kd.R_reads' (e:=39) (base:=w.heap.size) (ok:=fun k_=>True) (n:=y167.length) (c:=co9) ?_).2.2;exact(by(with_reducible repeat(first | apply Kd.R_alloc | apply Kd.R_drewN | apply Kd.R_drew));exact(Kd.R_mono (Kd.R_far (p:=⟨gb176,2,none⟩) (Kd.R_far (p:=⟨gb176,1,none⟩) (Kd.R_far (p:=⟨gb176,0,none⟩) (Kd.R_types HO169.out BK176.out (by decide)) (fun _ hk=>hk.2) (.bool t170)) (fun _ hk=>hk.2) (.slice Ao13 t171.length co13)) (fun _ hk=>hk.2) (.string t174)) (fun _ h_=>h_.1))));(case side2=>exact(Kd.R_reads' HO169.out).2.1);rintro e w14 ⟨v179,rfl,ho0,hb⟩;refine⟨_,rfl,?_⟩;have n0_:=Aside0.mk (Kd.R_below (by(with_reducible repeat(first | apply Kd.R_alloc | apply Kd.R_drewN | apply Kd.R_drew));exact(Kd.R_mono (Kd.R_far (p:=⟨gb176,2,none⟩) (Kd.R_far (p:=⟨gb176,1,none⟩) (Kd.R_far (p:=⟨gb176,0,none⟩) (Kd.R_types HO169.out BK176.out (by decide)) (fun _ hk=>hk.2) (.bool t170)) (fun _ hk=>hk.2) (.slice Ao13 t171.length co13)) (fun _ hk=>hk.2) (.string t174)) (fun _ h_=>h_.1))) hb);have n1_:=Aside0.mk (Kd.R_elder' (by(with_reducible repeat(first | apply Kd.R_alloc | apply Kd.R_drewN | apply Kd.R_drew));exact(Kd.R_mono (Kd.R_far (p:=⟨gb176,2,none⟩) (Kd.R_far (p:=⟨gb176,1,none⟩) (Kd.R_far (p:=⟨gb176,0,none⟩) (Kd.R_types HO173.out BK176.out (by decide)) (fun _ hk=>hk.2) (.bool t170)) (fun _ hk=>hk.2) (.slice Ao13 t171.length co13)) (fun _ hk=>hk.2) (.string t174)) (fun _ h_=>h_.1))) (Kd.R_base ho0) hb);have n2_:=Aside0.mk (Kd.R_lower (Kd.R_new' ho0 (Kd.R_lt (by(with_reducible repeat(first | apply Kd.R_alloc | apply Kd.R_drewN | apply Kd.R_drew));exact(Kd.R_mono (Kd.R_far (p:=⟨gb176,2,none⟩) (Kd.R_far (p:=⟨gb176,1,none⟩) (Kd.R_far (p:=⟨gb176,0,none⟩) (Kd.R_types HO173.out BK176.out (by decide)) (fun _ hk=>hk.2) (.bool t170)) (fun _ hk=>hk.2) (.slice Ao13 t171.length co13)) (fun _ hk=>hk.2) (.string t174)) (fun _ h_=>h_.1))))) (bwZ (by repeat(first |(with_reducible first | exact HB.out | apply bwA | apply bwN | apply bw1 | refine bwS ?_ GE176.out) | exact HB.out))));have n3_:=Aside0.mk (bkB (g:=gb176) (o:=.cells #[.bool t170,.slice Ao13 t171.length co13,.string t174] 55 (0,0)) (by(with_reducible repeat(first | refine bkN ?_ _ | refine bkD ?_ | refine bkA ?_ _));refine blk_put (cs:=#[.bool t170,.slice Ao13 t171.length co13,.string (⟨#[]⟩ : ByteArray)]) ?_ 2 _ rfl;(with_reducible repeat(first | refine bkN ?_ _ | refine bkD ?_ | refine bkA ?_ _));refine blk_put (cs:=#[.bool t170,.slice none 0 0,.string (⟨#[]⟩ : ByteArray)]) ?_ 1 _ rfl;(with_reducible repeat(first | refine bkN ?_ _ | refine bkD ?_ | refine bkA ?_ _));refine blk_put (cs:=#[.bool false,.slice none 0 0,.string (⟨#[]⟩ : ByteArray)]) ?_ 0 _ rfl;(with_reducible repeat(first | refine bkN ?_ _ | refine bkD ?_ | refine bkA ?_ _));exact BK176.out) hb);have n4_:=Aside0.mk (bwT (by repeat(first |(with_reducible first | exact HB.out | apply bwA | apply bwN | apply bw1 | refine bwS ?_ GE176.out) | exact HB.out)) hb);clear HO169;clear HO173;clear BK176;clear HB;have HO169:=n0_;have HO173:=n1_;have HO180:=n2_;have BK176:=n3_;have HB:=n4_;clear n0_ n1_ n2_ n3_ n4_;(try clear hb);(try clear hb2);(try clear hk);(try clear hi);(try clear ho0)) |((with_reducible refine gate_dst (N:=4) rfl ?_);(try(refine gate_guard (by rfl) ?_;dsimp only));refine box_event ?hg (N:=4) ?hd (cs:=#[.bool false,.slice none 0 0,.string (⟨#[]⟩ : ByteArray)]) (t:=55) ?hr ?_;(case hd=>rfl);(case hg=>rfl);(case hr=>first |(go_simp;done) |(go_simp;rfl));intro gb183 hg w15 hbox hb;have n0_:=Aside0.mk (Kd.R_below (by(with_reducible repeat(first | apply Kd.R_alloc | apply Kd.R_drewN | apply Kd.R_drew));exact HO169.out) hb);have n1_:=Aside0.mk (Kd.R_below (by(with_reducible repeat(first | apply Kd.R_alloc | apply Kd.R_drewN | apply Kd.R_drew));exact HO173.out) hb);have n2_:=Aside0.mk (Kd.R_below (by(with_reducible repeat(first | apply Kd.R_alloc | apply Kd.R_drewN | apply Kd.R_drew));exact HO180.out) hb);have n3_:=Aside0.mk (bkB (g:=gb176) (o:=.cells #[.bool t170,.slice Ao13 t171.length co13,.string t174] 55 (0,0)) (by(with_reducible repeat(first | refine bkN ?_ _ | refine bkD ?_ | refine bkA ?_ _));exact BK176.out) hb);have n4_:=Aside0.mk (bwT (by repeat(first |(with_reducible first | exact HB.out | apply bwA | apply bwN | apply bw1 | refine bwS ?_ GE176.out) | exact HB.out)) hb);have n5_:=Aside0.mk (hbox);have n6_:=Aside0.mk ((by rw [hg];exact(bwZ (by repeat(first |(with_reducible first | exact HB.out | apply bwA | apply bwN | apply bw1 | refine bwS ?_ GE176.out) | exact HB.out))) : w.heap.size≤gb183));have n7_:=Aside0.mk ((by rw [hg];exact(bwZ (by repeat(first |(with_reducible first | exact HB.out | apply bwA | apply bwN | apply bw1 | refine bwS ?_ GE176.out) | exact HB.out))) : w.heap.size≤gb183));have n8_:=Aside0.mk ((by rw [hg];exact Nat.ne_of_lt (blk_lt (g:=gb176) (o:=.cells #[.bool t170,.slice Ao13 t171.length co13,.string t174] 55 (0,0)) (by(with_reducible repeat(first | refine bkN ?_ _ | refine bkD ?_ | refine bkA ?_ _));exact BK176.out)) : gb176≠gb183));have n9_:=Aside0.mk ((by rw [hg];exact Nat.ne_of_gt (blk_lt (g:=gb176) (o:=.cells #[.bool t170,.slice Ao13 t171.length co13,.string t174] 55 (0,0)) (by(with_reducible repeat(first | refine bkN ?_ _ | refine bkD ?_ | refine bkA ?_ _));exact BK176.out)) : gb183≠gb176));clear HO169;clear HO173;clear HO180;clear BK176;clear HB;have HO169:=n0_;have HO173:=n1_;have HO180:=n2_;have BK176:=n3_;have HB:=n4_;have BK183:=n5_;have GW183:=n6_;have GE183:=n7_;have NB176_183:=n8_;have NB183_176:=n9_;clear n0_ n1_ n2_ n3_ n4_ n5_ n6_ n7_ n8_ n9_;clear hb hbox hg;have hnb16:=NB183_176.out;have hnc16:=NB176_183.out;have hcz17_0 : w15.cell? ⟨gb183,0,none⟩ = some (.bool false):=(bkC BK183.out 0).trans rfl;have hcz17_1 : w15.cell? ⟨gb183,1,none⟩ = some (.slice none 0 0):=(bkC BK183.out 1).trans rfl;have hcz17_2 : w15.cell? ⟨gb183,2,none⟩ = some (.string (⟨#[]⟩ : ByteArray)):=(bkC BK183.out 2).trans rfl;have hfz17_0:=bkF BK183.out 0;have hfz17_1:=bkF BK183.out 1;have hfz17_2:=bkF BK183.out 2;obtain ⟨Ao18,co18,eo18⟩:=Kd.R_slice HO180.out;subst eo18) |((with_reducible refine gate_callee (f:=17) rfl ?_);refine goesL_ (some 31) rfl rfl Try.func17 (by kernel_rfl) rfl #[.slice Ao9 y167.length co9,.int .i64 0] rfl (by(try simp only [List.map_toArray,List.map_cons,List.map_nil]);first | done | rfl |(simp only [List.length_drop,List.length_take];rfl)) ?_;(with_reducible refine(loops_Canonical.calls k _ _ y167 0 t184 t185 _ ?side1 ?side2 A3.out).mono ?_);(case side1=>refine(Kd.R_reads' (e:=39) (base:=w.heap.size) (ok:=fun k_=>True) (n:=y167.length) (c:=co9) ?_).2.2;exact(by(with_reducible repeat(first | apply Kd.R_alloc | apply Kd.R_drewN | apply Kd.R_drew));exact(Kd.R_mono (Kd.R_far (p:=⟨gb183,2,none⟩) (Kd.R_far (p:=⟨gb183,1,none⟩) (Kd.R_far (p:=⟨gb183,0,none⟩) (Kd.R_types HO169.out BK183.out (by decide)) (fun _ hk=>hk.2) (.bool t177)) (fun _ hk=>hk.2) (.slice Ao18 t178.length co18)) (fun _ hk=>hk.2) (.string t181)) (fun _ h_=>h_.1))));(case side2=>exact(Kd.R_reads' HO169.out).2.1);rintro e w19 ⟨v186,rfl,ho0,hb⟩;refine⟨_,rfl,?_⟩;have n0_:=Aside0.mk (Kd.R_elder' (by(with_reducible repeat(first | apply Kd.R_alloc | apply Kd.R_drewN | apply Kd.R_drew));exact(Kd.R_mono (Kd.R_far (p:=⟨gb183,2,none⟩) (Kd.R_far (p:=⟨gb183,1,none⟩) (Kd.R_far (p:=⟨gb183,0,none⟩) (Kd.R_types HO169.out BK183.out (by decide)) (fun _ hk=>hk.2) (.bool t177)) (fun _ hk=>hk.2) (.slice Ao18 t178.length co18)) (fun _ hk=>hk.2) (.string t181)) (fun _ h_=>h_.1))) (Kd.R_base ho0) hb);have n1_:=Aside0.mk (Kd.R_below (by(with_reducible repeat(first | apply Kd.R_alloc | apply Kd.R_drewN | apply Kd.R_drew));exact(Kd.R_mono (Kd.R_far (p:=⟨gb183,2,none⟩) (Kd.R_far (p:=⟨gb183,1,none⟩) (Kd.R_far (p:=⟨gb183,0,none⟩) (Kd.R_types HO173.out BK183.out (by decide)) (fun _ hk=>hk.2) (.bool t177)) (fun _ hk=>hk.2) (.slice Ao18 t178.length co18)) (fun _ hk=>hk.2) (.string t181)) (fun _ h_=>h_.1))) hb);have n2_:=Aside0.mk (Kd.R_below (by(with_reducible repeat(first | apply Kd.R_alloc | apply Kd.R_drewN | apply Kd.R_drew));exact(Kd.R_mono (Kd.R_far (p:=⟨gb183,2,none⟩) (Kd.R_far (p:=⟨gb183,1,none⟩) (Kd.R_far (p:=⟨gb183,0,none⟩) (Kd.R_types HO180.out BK183.out (by decide)) (fun _ hk=>hk.2) (.bool t177)) (fun _ hk=>hk.2) (.slice Ao18 t178.length co18)) (fun _ hk=>hk.2) (.string t181)) (fun _ h_=>h_.1))) hb);have n3_:=Aside0.mk (Kd.R_lower (Kd.R_new' ho0 (Kd.R_lt (by(with_reducible repeat(first | apply Kd.R_alloc | apply Kd.R_drewN | apply Kd.R_drew));exact(Kd.R_mono (Kd.R_far (p:=⟨gb183,2,none⟩) (Kd.R_far (p:=⟨gb183,1,none⟩) (Kd.R_far (p:=⟨gb183,0,none⟩) (Kd.R_types HO169.out BK183.out (by decide)) (fun _ hk=>hk.2) (.bool t177)) (fun _ hk=>hk.2) (.slice Ao18 t178.length co18)) (fun _ hk=>hk.2) (.string t181)) (fun _ h_=>h_.1))))) (bwZ (by repeat(first |(with_reducible first | exact HB.out | apply bwA | apply bwN | apply bw1 | refine bwS ?_ GE176.out | refine bwS ?_ GE183.out) | exact HB.out))));have n4_:=Aside0.mk (bkB (g:=gb176) (o:=.cells #[.bool t170,.slice Ao13 t171.length co13,.string t174] 55 (0,0)) (by(with_reducible repeat(first | refine bkN ?_ _ | refine bkD ?_ | refine bkA ?_ _));refine blk_far ?_ NB176_183.out _;(with_reducible repeat(first | refine bkN ?_ _ | refine bkD ?_ | refine bkA ?_ _));refine blk_far ?_ NB176_183.out _;(with_reducible repeat(first | refine bkN ?_ _ | refine bkD ?_ | refine bkA ?_ _));refine blk_far ?_ NB176_183.out _;(with_reducible repeat(first | refine bkN ?_ _ | refine bkD ?_ | refine bkA ?_ _));exact BK176.out) hb);have n5_:=Aside0.mk (bkB (g:=gb183) (o:=.cells #[.bool t177,.slice Ao18 t178.length co18,.string t181] 55 (0,0)) (by(with_reducible repeat(first | refine bkN ?_ _ | refine bkD ?_ | refine bkA ?_ _));refine blk_put (cs:=#[.bool t177,.slice Ao18 t178.length co18,.string (⟨#[]⟩ : ByteArray)]) ?_ 2 _ rfl;(with_reducible repeat(first | refine bkN ?_ _ | refine bkD ?_ | refine bkA ?_ _));refine blk_put (cs:=#[.bool t177,.slice none 0 0,.string (⟨#[]⟩ : ByteArray)]) ?_ 1 _ rfl;(with_reducible repeat(first | refine bkN ?_ _ | refine bkD ?_ | refine bkA ?_ _));refine blk_put (cs:=#[.bool false,.slice none 0 0,.string (⟨#[]⟩ : ByteArray)]) ?_ 0 _ rfl;(with_reducible repeat(first | refine bkN ?_ _ | refine bkD ?_ | refine bkA ?_ _));exact BK183.out) hb);have n6_:=Aside0.mk (bwT (by repeat(first |(with_reducible first | exact HB.out | apply bwA | apply bwN | apply bw1 | refine bwS ?_ GE176.out | refine bwS ?_ GE183.out) | exact HB.out)) hb);clear HO169;clear HO173;clear HO180;clear BK176;clear BK183;clear HB;have HO169:=n0_;have HO173:=n1_;have HO180:=n2_;have HO187:=n3_;have BK176:=n4_;have BK183:=n5_;have HB:=n6_;clear n0_ n1_ n2_ n3_ n4_ n5_ n6_;(try clear hb);(try clear hb2);(try clear hk);(try clear hi);(try clear ho0)) |((with_reducible refine gate_callee (f:=28) rfl ?_);refine goesL_ (some 36) rfl rfl Try.func28 (by kernel_rfl) rfl #[.slice Ao9 y167.length co9,.int .i64 3] rfl (by(try simp only [List.map_toArray,List.map_cons,List.map_nil]);first | done | rfl |(simp only [List.length_drop,List.length_take];rfl)) ?_;(with_reducible refine(loops_Depth.calls k _ _ y167 3 t188 t189 _ ?side1 ?side2 A4.out).mono ?_);(case side1=>repeat(first | exact(Kd.R_reads' HO169.out).2.2 |(with_reducible refine Kd.C_alloc ?_ _) |(with_reducible refine Kd.C_drewN ?_ _) |(with_reducible refine Kd.C_drew ?_)));(case side2=>exact(Kd.R_reads' HO169.out).2.1);rintro e w20 ⟨rfl,hb⟩;refine⟨_,rfl,?_⟩;have n0_:=Aside0.mk (Kd.R_below (by(with_reducible repeat(first | apply Kd.R_alloc | apply Kd.R_drewN | apply Kd.R_drew));exact HO169.out) hb);have n1_:=Aside0.mk (Kd.R_below (by(with_reducible repeat(first | apply Kd.R_alloc | apply Kd.R_drewN | apply Kd.R_drew));exact HO173.out) hb);have n2_:=Aside0.mk (Kd.R_below (by(with_reducible repeat(first | apply Kd.R_alloc | apply Kd.R_drewN | apply Kd.R_drew));exact HO180.out) hb);have n3_:=Aside0.mk (Kd.R_below (by(with_reducible repeat(first | apply Kd.R_alloc | apply Kd.R_drewN | apply Kd.R_drew));exact HO187.out) hb);have n4_:=Aside0.mk (bkB (g:=gb176) (o:=.cells #[.bool t170,.slice Ao13 t171.length co13,.string t174] 55 (0,0)) (by(with_reducible repeat(first | refine bkN ?_ _ | refine bkD ?_ | refine bkA ?_ _));exact BK176.out) hb);have n5_:=Aside0.mk (bkB (g:=gb183) (o:=.cells #[.bool t177,.slice Ao18 t178.length co18,.string t181] 55 (0,0)) (by(with_reducible repeat(first | refine bkN ?_ _ | refine bkD ?_ | refine bkA ?_ _));exact BK183.out) hb);have n6_:=Aside0.mk (bwT (by repeat(first |(with_reducible first | exact HB.out | apply bwA | apply bwN | apply bw1 | refine bwS ?_ GE176.out | refine bwS ?_ GE183.out) | exact HB.out)) hb);clear HO169;clear HO173;clear HO180;clear HO187;clear BK176;clear BK183;clear HB;have HO169:=n0_;have HO173:=n1_;have HO180:=n2_;have HO187:=n3_;have BK176:=n4_;have BK183:=n5_;have HB:=n6_;clear n0_ n1_ n2_ n3_ n4_ n5_ n6_;(try clear hb);(try clear hb2);(try clear hk);(try clear hi)) |((with_reducible refine gate_callee (f:=28) rfl ?_);refine goesL_ (some 41) rfl rfl Try.func28 (by kernel_rfl) rfl #[.slice Ao9 y167.length co9,.int .i64 0] rfl (by(try simp only [List.map_toArray,List.map_cons,List.map_nil]);first | done | rfl |(simp only [List.length_drop,List.length_take];rfl)) ?_;(with_reducible refine(loops_Depth.calls k _ _ y167 0 t190 t191 _ ?side1 ?side2 A5.out).mono ?_);(case side1=>repeat(first | exact(Kd.R_reads' HO169.out).2.2 |(with_reducible refine Kd.C_alloc ?_ _) |(with_reducible refine Kd.C_drewN ?_ _) |(with_reducible refine Kd.C_drew ?_)));(case side2=>exact(Kd.R_reads' HO169.out).2.1);rintro e w21 ⟨rfl,hb⟩;refine⟨_,rfl,?_⟩;have n0_:=Aside0.mk (Kd.R_below (by(with_reducible repeat(first | apply Kd.R_alloc | apply Kd.R_drewN | apply Kd.R_drew));exact HO169.out) hb);have n1_:=Aside0.mk (Kd.R_below (by(with_reducible repeat(first | apply Kd.R_alloc | apply Kd.R_drewN | apply Kd.R_drew));exact HO173.out) hb);have n2_:=Aside0.mk (Kd.R_below (by(with_reducible repeat(first | apply Kd.R_alloc | apply Kd.R_drewN | apply Kd.R_drew));exact HO180.out) hb);have n3_:=Aside0.mk (Kd.R_below (by(with_reducible repeat(first | apply Kd.R_alloc | apply Kd.R_drewN | apply Kd.R_drew));exact HO187.out) hb);have n4_:=Aside0.mk (bkB (g:=gb176) (o:=.cells #[.bool t170,.slice Ao13 t171.length co13,.string t174] 55 (0,0)) (by(with_reducible repeat(first | refine bkN ?_ _ | refine bkD ?_ | refine bkA ?_ _));exact BK176.out) hb);have n5_:=Aside0.mk (bkB (g:=gb183) (o:=.cells #[.bool t177,.slice Ao18 t178.length co18,.string t181] 55 (0,0)) (by(with_reducible repeat(first | refine bkN ?_ _ | refine bkD ?_ | refine bkA ?_ _));exact BK183.out) hb);have n6_:=Aside0.mk (bwT (by repeat(first |(with_reducible first | exact HB.out | apply bwA | apply bwN | apply bw1 | refine bwS ?_ GE176.out | refine bwS ?_ GE183.out) | exact HB.out)) hb);clear HO169;clear HO173;clear HO180;clear HO187;clear BK176;clear BK183;clear HB;have HO169:=n0_;have HO173:=n1_;have HO180:=n2_;have HO187:=n3_;have BK176:=n4_;have BK183:=n5_;have HB:=n6_;clear n0_ n1_ n2_ n3_ n4_ n5_ n6_;(try clear hb);(try clear hb2);(try clear hk);(try clear hi)))
 (try simp only [Act.put,List.setIfInBounds_toArray,List.set_cons_zero,List.set_cons_succ])
 go_cut [87] (fun v87 wc=>∃ (kq : Nat) (x87_5 : Bool),v87 = .bool x87_5∧Aside0 (w06_awake.j0 kq x87_5 = some r)∧Aside0 (kq≤k)∧Aside0 (Kd.R k23 23 wc w.heap.size (fun k_=>some k_ ≠((.slice Ao18 t178.length co18) : Value).ownBlock) (.slice Ao13 t171.length co13) t171)∧Aside0 (Kd.R k23 23 wc w.heap.size (fun k_=>some k_ ≠((.slice Ao13 t171.length co13) : Value).ownBlock) (.slice Ao18 t178.length co18) t178)∧Aside0 (wc.heap[gb176]? = some (.cells #[.bool t170,(.slice Ao13 t171.length co13),.string t174] 55 (0,0)))∧Aside0 (wc.heap[gb183]? = some (.cells #[.bool t177,(.slice Ao18 t178.length co18),.string t181] 55 (0,0)))∧Aside0 (Below w.heap.size w wc))
 case first =>
  have H:=HC6.out
  clear HC6
  by_cases c22 : t175 = 0
  rotate_left
  ·rw [if_neg c22] at H
   have c22b0 :(t175 == 0) = false:=beq_eq_false_iff_ne.mpr c22
   have c22b1 :(t175 != 0) = true:=bne_iff_ne.mpr c22
   (first | rw [c22b0] |(simp only [i64_w,i32_w];rw [c22b0]) | skip)
   have H':=Aside0.mk H
   clear H
   go_wp2
   go_meet
   exact⟨_,(true),(by first | rfl |(simp;done) |(simp [*];done)),H',⟨by first | omega | exact Nat.le_refl _⟩,⟨by(with_reducible repeat(first | apply Kd.R_alloc | apply Kd.R_drewN | apply Kd.R_drew));exact Kd.R_mono HO173.out (fun _ hk=>hk.2)⟩,⟨by(with_reducible repeat(first | apply Kd.R_alloc | apply Kd.R_drewN | apply Kd.R_drew));exact Kd.R_mono HO180.out (fun _ hk=>hk.2)⟩,⟨by(with_reducible repeat(first | refine bkN ?_ _ | refine bkD ?_ | refine bkA ?_ _));exact BK176.out⟩,⟨by(with_reducible repeat(first | refine bkN ?_ _ | refine bkD ?_ | refine bkA ?_ _));exact BK183.out⟩,⟨by repeat(first |(with_reducible first | exact HB.out | apply bwA | apply bwN | apply bw1 | refine bwS ?_ GE176.out | refine bwS ?_ GE183.out) | exact HB.out)⟩⟩
  rw [if_pos c22] at H
  have c22b0 :(t175 == 0) = true:=beq_iff_eq.mpr c22
  have c22b1 :(t175 != 0) = false:=bne_eq_false_iff_eq.mpr c22
  clear c22
  (first | rw [c22b0] |(simp only [i64_w,i32_w];rw [c22b0]) | skip)
  by_cases c23 : t170 = true
  ·subst c23
   have H1 :(w06_awake.j0 k true) = some r:=by rw [if_pos rfl] at H;exact H
   clear H
   have H:=H1
   clear H1
   have H':=Aside0.mk H
   clear H
   have hnb24:=NB176_183.out
   have hnc24:=NB183_176.out
   have hcz25_0 : w21.cell? ⟨gb176,0,none⟩ = some (.bool true):=(bkC BK176.out 0).trans rfl
   have hcz25_1 : w21.cell? ⟨gb176,1,none⟩ = some (.slice Ao13 t171.length co13):=(bkC BK176.out 1).trans rfl
   have hcz25_2 : w21.cell? ⟨gb176,2,none⟩ = some (.string t174):=(bkC BK176.out 2).trans rfl
   have hfz25_0:=bkF BK176.out 0
   have hfz25_1:=bkF BK176.out 1
   have hfz25_2:=bkF BK176.out 2
   go_wp2
   go_meet
   exact⟨_,(true),(by first | rfl |(simp;done) |(simp [*];done)),H',⟨by first | omega | exact Nat.le_refl _⟩,⟨by(with_reducible repeat(first | apply Kd.R_alloc | apply Kd.R_drewN | apply Kd.R_drew));exact Kd.R_mono HO173.out (fun _ hk=>hk.2)⟩,⟨by(with_reducible repeat(first | apply Kd.R_alloc | apply Kd.R_drewN | apply Kd.R_drew));exact Kd.R_mono HO180.out (fun _ hk=>hk.2)⟩,⟨by(with_reducible repeat(first | refine bkN ?_ _ | refine bkD ?_ | refine bkA ?_ _));exact BK176.out⟩,⟨by(with_reducible repeat(first | refine bkN ?_ _ | refine bkD ?_ | refine bkA ?_ _));exact BK183.out⟩,⟨by repeat(first |(with_reducible first | exact HB.out | apply bwA | apply bwN | apply bw1 | refine bwS ?_ GE176.out | refine bwS ?_ GE183.out) | exact HB.out)⟩⟩
  replace c23:=Bool.eq_false_iff.mpr c23
  subst c23
  have H1 :(if t174.toList =([] : List UInt8) then(if t182 = 0 then(if t177 = true then(if t185 = 0 then((w06_types.f k t184 (([(⟨4,1,0⟩ : S39),(⟨2,0,0⟩ : S39)] : List (S39)))).bind fun t195=>(if t195 = true then(if t189 = 0 then(if t188 = 1 then(w06_awake.j0 k (t191 != 6)) else(w06_awake.j0 k true)) else(w06_awake.j0 k true)) else(w06_awake.j0 k true))) else(w06_awake.j0 k true)) else(w06_awake.j0 k true)) else(w06_awake.j0 k true)) else(w06_awake.j0 k true)) = some r:=by rw [if_neg (show ¬ (false = true) by decide)] at H;exact H
  clear H
  have H:=H1
  clear H1
  by_cases c26 : t174.toList =([] : List UInt8)
  rotate_left
  ·rw [if_neg c26] at H
   have c26b0 :(t174.toList ==([] : List UInt8)) = false:=beq_eq_false_iff_ne.mpr c26
   have c26b1 :(t174.toList !=([] : List UInt8)) = true:=bne_iff_ne.mpr c26
   have H':=Aside0.mk H
   clear H
   have hnb70:=NB176_183.out
   have hnc70:=NB183_176.out
   have hcz71_0 : w21.cell? ⟨gb176,0,none⟩ = some (.bool false):=(bkC BK176.out 0).trans rfl
   have hcz71_1 : w21.cell? ⟨gb176,1,none⟩ = some (.slice Ao13 t171.length co13):=(bkC BK176.out 1).trans rfl
   have hcz71_2 : w21.cell? ⟨gb176,2,none⟩ = some (.string t174):=(bkC BK176.out 2).trans rfl
   have hfz71_0:=bkF BK176.out 0
   have hfz71_1:=bkF BK176.out 1
   have hfz71_2:=bkF BK176.out 2
   go_wp2
   go_meet
   exact⟨_,(true),(by first | rfl |(simp;done) |(simp [*];done)),H',⟨by first | omega | exact Nat.le_refl _⟩,⟨by(with_reducible repeat(first | apply Kd.R_alloc | apply Kd.R_drewN | apply Kd.R_drew));exact Kd.R_mono HO173.out (fun _ hk=>hk.2)⟩,⟨by(with_reducible repeat(first | apply Kd.R_alloc | apply Kd.R_drewN | apply Kd.R_drew));exact Kd.R_mono HO180.out (fun _ hk=>hk.2)⟩,⟨by(with_reducible repeat(first | refine bkN ?_ _ | refine bkD ?_ | refine bkA ?_ _));exact BK176.out⟩,⟨by(with_reducible repeat(first | refine bkN ?_ _ | refine bkD ?_ | refine bkA ?_ _));exact BK183.out⟩,⟨by repeat(first |(with_reducible first | exact HB.out | apply bwA | apply bwN | apply bw1 | refine bwS ?_ GE176.out | refine bwS ?_ GE183.out) | exact HB.out)⟩⟩
  rw [if_pos c26] at H
  have c26b0 :(t174.toList ==([] : List UInt8)) = true:=beq_iff_eq.mpr c26
  have c26b1 :(t174.toList !=([] : List UInt8)) = false:=bne_eq_false_iff_eq.mpr c26
  clear c26
  by_cases c27 : t182 = 0
  rotate_left
  ·rw [if_neg c27] at H
   have c27b0 :(t182 == 0) = false:=beq_eq_false_iff_ne.mpr c27
   have c27b1 :(t182 != 0) = true:=bne_iff_ne.mpr c27
   have H':=Aside0.mk H
   clear H
   have hnb68:=NB176_183.out
   have hnc68:=NB183_176.out
   have hcz69_0 : w21.cell? ⟨gb176,0,none⟩ = some (.bool false):=(bkC BK176.out 0).trans rfl
   have hcz69_1 : w21.cell? ⟨gb176,1,none⟩ = some (.slice Ao13 t171.length co13):=(bkC BK176.out 1).trans rfl
   have hcz69_2 : w21.cell? ⟨gb176,2,none⟩ = some (.string t174):=(bkC BK176.out 2).trans rfl
   have hfz69_0:=bkF BK176.out 0
   have hfz69_1:=bkF BK176.out 1
   have hfz69_2:=bkF BK176.out 2
   go_wp2
   go_meet
   exact⟨_,(true),(by first | rfl |(simp;done) |(simp [*];done)),H',⟨by first | omega | exact Nat.le_refl _⟩,⟨by(with_reducible repeat(first | apply Kd.R_alloc | apply Kd.R_drewN | apply Kd.R_drew));exact Kd.R_mono HO173.out (fun _ hk=>hk.2)⟩,⟨by(with_reducible repeat(first | apply Kd.R_alloc | apply Kd.R_drewN | apply Kd.R_drew));exact Kd.R_mono HO180.out (fun _ hk=>hk.2)⟩,⟨by(with_reducible repeat(first | refine bkN ?_ _ | refine bkD ?_ | refine bkA ?_ _));exact BK176.out⟩,⟨by(with_reducible repeat(first | refine bkN ?_ _ | refine bkD ?_ | refine bkA ?_ _));exact BK183.out⟩,⟨by repeat(first |(with_reducible first | exact HB.out | apply bwA | apply bwN | apply bw1 | refine bwS ?_ GE176.out | refine bwS ?_ GE183.out) | exact HB.out)⟩⟩
  rw [if_pos c27] at H
  have c27b0 :(t182 == 0) = true:=beq_iff_eq.mpr c27
  have c27b1 :(t182 != 0) = false:=bne_eq_false_iff_eq.mpr c27
  clear c27
  by_cases c28 : t177 = true
  rotate_left
  ·replace c28 := Bool.eq_false_iff.mpr c28
   subst c28
   have H1 :(w06_awake.j0 k true) = some r:=by rw [if_neg (show ¬ (false = true) by decide)] at H;exact H
   clear H
   have H:=H1
   clear H1
   have H':=Aside0.mk H
   clear H
   have hnb65:=NB176_183.out
   have hnc65:=NB183_176.out
   have hcz66_0 : w21.cell? ⟨gb176,0,none⟩ = some (.bool false):=(bkC BK176.out 0).trans rfl
   have hcz66_1 : w21.cell? ⟨gb176,1,none⟩ = some (.slice Ao13 t171.length co13):=(bkC BK176.out 1).trans rfl
   have hcz66_2 : w21.cell? ⟨gb176,2,none⟩ = some (.string t174):=(bkC BK176.out 2).trans rfl
   have hfz66_0:=bkF BK176.out 0
   have hfz66_1:=bkF BK176.out 1
   have hfz66_2:=bkF BK176.out 2
   have hcz67_0 : w21.cell? ⟨gb183,0,none⟩ = some (.bool false):=(bkC BK183.out 0).trans rfl
   have hcz67_1 : w21.cell? ⟨gb183,1,none⟩ = some (.slice Ao18 t178.length co18):=(bkC BK183.out 1).trans rfl
   have hcz67_2 : w21.cell? ⟨gb183,2,none⟩ = some (.string t181):=(bkC BK183.out 2).trans rfl
   have hfz67_0:=bkF BK183.out 0
   have hfz67_1:=bkF BK183.out 1
   have hfz67_2:=bkF BK183.out 2
   go_wp2
   go_meet
   exact⟨_,(true),(by first | rfl |(simp;done) |(simp [*];done)),H',⟨by first | omega | exact Nat.le_refl _⟩,⟨by(with_reducible repeat(first | apply Kd.R_alloc | apply Kd.R_drewN | apply Kd.R_drew));exact Kd.R_mono HO173.out (fun _ hk=>hk.2)⟩,⟨by(with_reducible repeat(first | apply Kd.R_alloc | apply Kd.R_drewN | apply Kd.R_drew));exact Kd.R_mono HO180.out (fun _ hk=>hk.2)⟩,⟨by(with_reducible repeat(first | refine bkN ?_ _ | refine bkD ?_ | refine bkA ?_ _));exact BK176.out⟩,⟨by(with_reducible repeat(first | refine bkN ?_ _ | refine bkD ?_ | refine bkA ?_ _));exact BK183.out⟩,⟨by repeat(first |(with_reducible first | exact HB.out | apply bwA | apply bwN | apply bw1 | refine bwS ?_ GE176.out | refine bwS ?_ GE183.out) | exact HB.out)⟩⟩
  subst c28
  have H1 :(if t185 = 0 then((w06_types.f k t184 (([(⟨4,1,0⟩ : S39),(⟨2,0,0⟩ : S39)] : List (S39)))).bind fun t195=>(if t195 = true then(if t189 = 0 then(if t188 = 1 then(w06_awake.j0 k (t191 != 6)) else(w06_awake.j0 k true)) else(w06_awake.j0 k true)) else(w06_awake.j0 k true))) else(w06_awake.j0 k true)) = some r:=by rw [if_pos rfl] at H;exact H
  clear H
  have H:=H1
  clear H1
  by_cases c29 : t185 = 0
  rotate_left
  ·rw [if_neg c29] at H
   have c29b0 :(t185 == 0) = false:=beq_eq_false_iff_ne.mpr c29
   have c29b1 :(t185 != 0) = true:=bne_iff_ne.mpr c29
   have H':=Aside0.mk H
   clear H
   have hnb62:=NB176_183.out
   have hnc62:=NB183_176.out
   have hcz63_0 : w21.cell? ⟨gb176,0,none⟩ = some (.bool false):=(bkC BK176.out 0).trans rfl
   have hcz63_1 : w21.cell? ⟨gb176,1,none⟩ = some (.slice Ao13 t171.length co13):=(bkC BK176.out 1).trans rfl
   have hcz63_2 : w21.cell? ⟨gb176,2,none⟩ = some (.string t174):=(bkC BK176.out 2).trans rfl
   have hfz63_0:=bkF BK176.out 0
   have hfz63_1:=bkF BK176.out 1
   have hfz63_2:=bkF BK176.out 2
   have hcz64_0 : w21.cell? ⟨gb183,0,none⟩ = some (.bool true):=(bkC BK183.out 0).trans rfl
   have hcz64_1 : w21.cell? ⟨gb183,1,none⟩ = some (.slice Ao18 t178.length co18):=(bkC BK183.out 1).trans rfl
   have hcz64_2 : w21.cell? ⟨gb183,2,none⟩ = some (.string t181):=(bkC BK183.out 2).trans rfl
   have hfz64_0:=bkF BK183.out 0
   have hfz64_1:=bkF BK183.out 1
   have hfz64_2:=bkF BK183.out 2
   go_wp2
   go_meet
   exact⟨_,(true),(by first | rfl |(simp;done) |(simp [*];done)),H',⟨by first | omega | exact Nat.le_refl _⟩,⟨by(with_reducible repeat(first | apply Kd.R_alloc | apply Kd.R_drewN | apply Kd.R_drew));exact Kd.R_mono HO173.out (fun _ hk=>hk.2)⟩,⟨by(with_reducible repeat(first | apply Kd.R_alloc | apply Kd.R_drewN | apply Kd.R_drew));exact Kd.R_mono HO180.out (fun _ hk=>hk.2)⟩,⟨by(with_reducible repeat(first | refine bkN ?_ _ | refine bkD ?_ | refine bkA ?_ _));exact BK176.out⟩,⟨by(with_reducible repeat(first | refine bkN ?_ _ | refine bkD ?_ | refine bkA ?_ _));exact BK183.out⟩,⟨by repeat(first |(with_reducible first | exact HB.out | apply bwA | apply bwN | apply bw1 | refine bwS ?_ GE176.out | refine bwS ?_ GE183.out) | exact HB.out)⟩⟩
  rw [if_pos c29] at H
  have c29b0 :(t185 == 0) = true:=beq_iff_eq.mpr c29
  have c29b1 :(t185 != 0) = false:=bne_eq_false_iff_eq.mpr c29
  clear c29
  obtain ⟨y192,hy192⟩ : ∃ y_ : List (S39),y_ =(([(⟨4,1,0⟩ : S39),(⟨2,0,0⟩ : S39)] : List (S39))):=⟨_,rfl⟩
  replace H :((w06_types.f k t184 y192).bind fun t195=>(if t195 = true then(if t189 = 0 then(if t188 = 1 then(w06_awake.j0 k (t191 != 6)) else(w06_awake.j0 k true)) else(w06_awake.j0 k true)) else(w06_awake.j0 k true))) = some r:=by first |(rw [hy192];with_reducible exact H) |(have H2_:=(Option.bind_some _ _).symm.trans H;rw [hy192];with_reducible exact H2_) |(have H2_:=(Option.bind_some _ _).symm.trans H;with_reducible exact H2_) | with_reducible exact H |(rw [hy192];exact H) | exact H
  have Ny192:=Aside0.mk hy192
  clear hy192
  replace H:=Option.bind_eq_some_iff.mp H
  obtain ⟨t195,A300,H⟩:=H
  replace H :(if t195 = true then(if t189 = 0 then(if t188 = 1 then(w06_awake.j0 k (t191 != 6)) else(w06_awake.j0 k true)) else(w06_awake.j0 k true)) else(w06_awake.j0 k true)) = some r:=H
  have A30:=Aside0.mk A300
  clear A300
  by_cases c31 : t195 = true
  rotate_left
  ·replace c31 := Bool.eq_false_iff.mpr c31
   subst c31
   have H1 :(w06_awake.j0 k true) = some r:=by rw [if_neg (show ¬ (false = true) by decide)] at H;exact H
   clear H
   have H:=H1
   clear H1
   have H':=Aside0.mk H
   clear H
   have hnb55:=NB176_183.out
   have hnc55:=NB183_176.out
   have hcz56_0 : w21.cell? ⟨gb176,0,none⟩ = some (.bool false):=(bkC BK176.out 0).trans rfl
   have hcz56_1 : w21.cell? ⟨gb176,1,none⟩ = some (.slice Ao13 t171.length co13):=(bkC BK176.out 1).trans rfl
   have hcz56_2 : w21.cell? ⟨gb176,2,none⟩ = some (.string t174):=(bkC BK176.out 2).trans rfl
   have hfz56_0:=bkF BK176.out 0
   have hfz56_1:=bkF BK176.out 1
   have hfz56_2:=bkF BK176.out 2
   have hcz57_0 : w21.cell? ⟨gb183,0,none⟩ = some (.bool true):=(bkC BK183.out 0).trans rfl
   have hcz57_1 : w21.cell? ⟨gb183,1,none⟩ = some (.slice Ao18 t178.length co18):=(bkC BK183.out 1).trans rfl
   have hcz57_2 : w21.cell? ⟨gb183,2,none⟩ = some (.string t181):=(bkC BK183.out 2).trans rfl
   have hfz57_0:=bkF BK183.out 0
   have hfz57_1:=bkF BK183.out 1
   have hfz57_2:=bkF BK183.out 2
   go_wp2_with (first |((with_reducible refine gate_dst (N:=72) rfl ?_);(try(refine gate_guard (by rfl) ?_;dsimp only));refine Kd.R_lit k39 _ 39 ?hg (N:=72) ?hd (xs:=([(⟨4,1,0⟩ : S39),(⟨2,0,0⟩ : S39)] : List (S39))) (inner:=[.int .i64 4,.int .i64 1,.int .i64 0,.int .i64 2,.int .i64 0,.int .i64 0]) (ok:=fun _=>True) (okp:=fun _=>True) ?hr ?hp (fun _ hk=>hk) trivial (Below.refl _ _) (Nat.le_refl _) (by simp) ?_;(case hd=>rfl);(case hg=>rfl);(case hr=>first |(go_simp;done) |(go_simp;rfl));(case hp=>exact(Reps.c3 (show Kd.M k39 _ _ _ (⟨4,1,0⟩ : S39) [.int .i64 4,.int .i64 1,.int .i64 0] from(k39_mkM _ _ _ (⟨4,1,0⟩ : S39) )) (Reps.c3 (show Kd.M k39 _ _ _ (⟨2,0,0⟩ : S39) [.int .i64 2,.int .i64 0,.int .i64 0] from(k39_mkM _ _ _ (⟨2,0,0⟩ : S39) )) (Reps.none _ _))));intro v193 w58 ho59 hb hg_ hnew_;clear hg_ hnew_;(first | rw [← Ny192.out] at ho59 |(simp only [Int.reduceToNat] at ho59;rw [← Ny192.out] at ho59));have n0_:=Aside0.mk (Kd.R_elder' (by(with_reducible repeat(first | apply Kd.R_alloc | apply Kd.R_drewN | apply Kd.R_drew));exact HO169.out) (Kd.R_base ho59) hb);have n1_:=Aside0.mk (Kd.R_below (by(with_reducible repeat(first | apply Kd.R_alloc | apply Kd.R_drewN | apply Kd.R_drew));exact HO173.out) hb);have n2_:=Aside0.mk (Kd.R_below (by(with_reducible repeat(first | apply Kd.R_alloc | apply Kd.R_drewN | apply Kd.R_drew));exact HO180.out) hb);have n3_:=Aside0.mk (Kd.R_elder' (by(with_reducible repeat(first | apply Kd.R_alloc | apply Kd.R_drewN | apply Kd.R_drew));exact HO187.out) (Kd.R_base ho59) hb);have n4_:=Aside0.mk (Kd.R_lower (Kd.R_new' (Kd.R_new' ho59 (Kd.R_lt (by(with_reducible repeat(first | apply Kd.R_alloc | apply Kd.R_drewN | apply Kd.R_drew));exact HO169.out))) (Kd.R_lt (by(with_reducible repeat(first | apply Kd.R_alloc | apply Kd.R_drewN | apply Kd.R_drew));exact HO187.out))) (bwZ (by repeat(first |(with_reducible first | exact HB.out | apply bwA | apply bwN | apply bw1 | refine bwS ?_ GE176.out | refine bwS ?_ GE183.out) | exact HB.out))));have n5_:=Aside0.mk (bkB (g:=gb176) (o:=.cells #[.bool false,.slice Ao13 t171.length co13,.string t174] 55 (0,0)) (by(with_reducible repeat(first | refine bkN ?_ _ | refine bkD ?_ | refine bkA ?_ _));exact BK176.out) hb);have n6_:=Aside0.mk (bkB (g:=gb183) (o:=.cells #[.bool true,.slice Ao18 t178.length co18,.string t181] 55 (0,0)) (by(with_reducible repeat(first | refine bkN ?_ _ | refine bkD ?_ | refine bkA ?_ _));exact BK183.out) hb);have n7_:=Aside0.mk (bwT (by repeat(first |(with_reducible first | exact HB.out | apply bwA | apply bwN | apply bw1 | refine bwS ?_ GE176.out | refine bwS ?_ GE183.out) | exact HB.out)) hb);clear HO169;clear HO173;clear HO180;clear HO187;clear BK176;clear BK183;clear HB;have HO169:=n0_;have HO173:=n1_;have HO180:=n2_;have HO187:=n3_;have HO194:=n4_;have BK176:=n5_;have BK183:=n6_;have HB:=n7_;clear n0_ n1_ n2_ n3_ n4_ n5_ n6_ n7_;clear hb ho59;obtain ⟨Ao60,co60,eo60⟩:=Kd.R_slice HO187.out;subst eo60;obtain ⟨Ao61,co61,eo61⟩:=Kd.R_slice HO194.out;subst eo61) |(go_at_call 20;(with_reducible refine(w06_types.calls k _ _ t184 _ _ y192 false _ ?side1 ?side2 ?side3 ?side4 A30.out).mono ?_);(case side1=>repeat(first | exact(Kd.R_reads' HO187.out).2.2 |(with_reducible refine Kd.C_alloc ?_ _) |(with_reducible refine Kd.C_drewN ?_ _) |(with_reducible refine Kd.C_drew ?_)));(case side2=>exact(Kd.R_reads' HO187.out).2.1);(case side3=>repeat(first | exact(Kd.R_reads' HO194.out).2.2 |(with_reducible refine Kd.C_alloc ?_ _) |(with_reducible refine Kd.C_drewN ?_ _) |(with_reducible refine Kd.C_drew ?_)));(case side4=>exact(Kd.R_reads' HO194.out).2.1);rintro e w' ⟨rfl,⟨nd,rfl⟩⟩))
   go_meet
   exact⟨_,(true),(by first | rfl |(simp;done) |(simp [*];done)),H',⟨by first | omega | exact Nat.le_refl _⟩,⟨by(with_reducible repeat(first | apply Kd.R_alloc | apply Kd.R_drewN | apply Kd.R_drew));exact Kd.R_mono HO173.out (fun _ hk=>hk.2)⟩,⟨by(with_reducible repeat(first | apply Kd.R_alloc | apply Kd.R_drewN | apply Kd.R_drew));exact Kd.R_mono HO180.out (fun _ hk=>hk.2)⟩,⟨by(with_reducible repeat(first | refine bkN ?_ _ | refine bkD ?_ | refine bkA ?_ _));exact BK176.out⟩,⟨by(with_reducible repeat(first | refine bkN ?_ _ | refine bkD ?_ | refine bkA ?_ _));exact BK183.out⟩,⟨by repeat(first |(with_reducible first | exact HB.out | apply bwA | apply bwN | apply bw1 | refine bwS ?_ GE176.out | refine bwS ?_ GE183.out) | exact HB.out)⟩⟩
  subst c31
  have H1 :(if t189 = 0 then(if t188 = 1 then(w06_awake.j0 k (t191 != 6)) else(w06_awake.j0 k true)) else(w06_awake.j0 k true)) = some r:=by rw [if_pos rfl] at H;exact H
  clear H
  have H:=H1
  clear H1
  by_cases c32 : t189 = 0
  rotate_left
  ·rw [if_neg c32] at H
   have c32b0 :(t189 == 0) = false:=beq_eq_false_iff_ne.mpr c32
   have c32b1 :(t189 != 0) = true:=bne_iff_ne.mpr c32
   have H':=Aside0.mk H
   clear H
   have hnb48:=NB176_183.out
   have hnc48:=NB183_176.out
   have hcz49_0 : w21.cell? ⟨gb176,0,none⟩ = some (.bool false):=(bkC BK176.out 0).trans rfl
   have hcz49_1 : w21.cell? ⟨gb176,1,none⟩ = some (.slice Ao13 t171.length co13):=(bkC BK176.out 1).trans rfl
   have hcz49_2 : w21.cell? ⟨gb176,2,none⟩ = some (.string t174):=(bkC BK176.out 2).trans rfl
   have hfz49_0:=bkF BK176.out 0
   have hfz49_1:=bkF BK176.out 1
   have hfz49_2:=bkF BK176.out 2
   have hcz50_0 : w21.cell? ⟨gb183,0,none⟩ = some (.bool true):=(bkC BK183.out 0).trans rfl
   have hcz50_1 : w21.cell? ⟨gb183,1,none⟩ = some (.slice Ao18 t178.length co18):=(bkC BK183.out 1).trans rfl
   have hcz50_2 : w21.cell? ⟨gb183,2,none⟩ = some (.string t181):=(bkC BK183.out 2).trans rfl
   have hfz50_0:=bkF BK183.out 0
   have hfz50_1:=bkF BK183.out 1
   have hfz50_2:=bkF BK183.out 2
   go_wp2_with (first |((with_reducible refine gate_dst (N:=72) rfl ?_);(try(refine gate_guard (by rfl) ?_;dsimp only));refine Kd.R_lit k39 _ 39 ?hg (N:=72) ?hd (xs:=([(⟨4,1,0⟩ : S39),(⟨2,0,0⟩ : S39)] : List (S39))) (inner:=[.int .i64 4,.int .i64 1,.int .i64 0,.int .i64 2,.int .i64 0,.int .i64 0]) (ok:=fun _=>True) (okp:=fun _=>True) ?hr ?hp (fun _ hk=>hk) trivial (Below.refl _ _) (Nat.le_refl _) (by simp) ?_;(case hd=>rfl);(case hg=>rfl);(case hr=>first |(go_simp;done) |(go_simp;rfl));(case hp=>exact(Reps.c3 (show Kd.M k39 _ _ _ (⟨4,1,0⟩ : S39) [.int .i64 4,.int .i64 1,.int .i64 0] from(k39_mkM _ _ _ (⟨4,1,0⟩ : S39) )) (Reps.c3 (show Kd.M k39 _ _ _ (⟨2,0,0⟩ : S39) [.int .i64 2,.int .i64 0,.int .i64 0] from(k39_mkM _ _ _ (⟨2,0,0⟩ : S39) )) (Reps.none _ _))));intro v193 w51 ho52 hb hg_ hnew_;clear hg_ hnew_;(first | rw [← Ny192.out] at ho52 |(simp only [Int.reduceToNat] at ho52;rw [← Ny192.out] at ho52));have n0_:=Aside0.mk (Kd.R_elder' (by(with_reducible repeat(first | apply Kd.R_alloc | apply Kd.R_drewN | apply Kd.R_drew));exact HO169.out) (Kd.R_base ho52) hb);have n1_:=Aside0.mk (Kd.R_below (by(with_reducible repeat(first | apply Kd.R_alloc | apply Kd.R_drewN | apply Kd.R_drew));exact HO173.out) hb);have n2_:=Aside0.mk (Kd.R_below (by(with_reducible repeat(first | apply Kd.R_alloc | apply Kd.R_drewN | apply Kd.R_drew));exact HO180.out) hb);have n3_:=Aside0.mk (Kd.R_elder' (by(with_reducible repeat(first | apply Kd.R_alloc | apply Kd.R_drewN | apply Kd.R_drew));exact HO187.out) (Kd.R_base ho52) hb);have n4_:=Aside0.mk (Kd.R_lower (Kd.R_new' (Kd.R_new' ho52 (Kd.R_lt (by(with_reducible repeat(first | apply Kd.R_alloc | apply Kd.R_drewN | apply Kd.R_drew));exact HO169.out))) (Kd.R_lt (by(with_reducible repeat(first | apply Kd.R_alloc | apply Kd.R_drewN | apply Kd.R_drew));exact HO187.out))) (bwZ (by repeat(first |(with_reducible first | exact HB.out | apply bwA | apply bwN | apply bw1 | refine bwS ?_ GE176.out | refine bwS ?_ GE183.out) | exact HB.out))));have n5_:=Aside0.mk (bkB (g:=gb176) (o:=.cells #[.bool false,.slice Ao13 t171.length co13,.string t174] 55 (0,0)) (by(with_reducible repeat(first | refine bkN ?_ _ | refine bkD ?_ | refine bkA ?_ _));exact BK176.out) hb);have n6_:=Aside0.mk (bkB (g:=gb183) (o:=.cells #[.bool true,.slice Ao18 t178.length co18,.string t181] 55 (0,0)) (by(with_reducible repeat(first | refine bkN ?_ _ | refine bkD ?_ | refine bkA ?_ _));exact BK183.out) hb);have n7_:=Aside0.mk (bwT (by repeat(first |(with_reducible first | exact HB.out | apply bwA | apply bwN | apply bw1 | refine bwS ?_ GE176.out | refine bwS ?_ GE183.out) | exact HB.out)) hb);clear HO169;clear HO173;clear HO180;clear HO187;clear BK176;clear BK183;clear HB;have HO169:=n0_;have HO173:=n1_;have HO180:=n2_;have HO187:=n3_;have HO194:=n4_;have BK176:=n5_;have BK183:=n6_;have HB:=n7_;clear n0_ n1_ n2_ n3_ n4_ n5_ n6_ n7_;clear hb ho52;obtain ⟨Ao53,co53,eo53⟩:=Kd.R_slice HO187.out;subst eo53;obtain ⟨Ao54,co54,eo54⟩:=Kd.R_slice HO194.out;subst eo54) |(go_at_call 20;(with_reducible refine(w06_types.calls k _ _ t184 _ _ y192 true _ ?side1 ?side2 ?side3 ?side4 A30.out).mono ?_);(case side1=>repeat(first | exact(Kd.R_reads' HO187.out).2.2 |(with_reducible refine Kd.C_alloc ?_ _) |(with_reducible refine Kd.C_drewN ?_ _) |(with_reducible refine Kd.C_drew ?_)));(case side2=>exact(Kd.R_reads' HO187.out).2.1);(case side3=>repeat(first | exact(Kd.R_reads' HO194.out).2.2 |(with_reducible refine Kd.C_alloc ?_ _) |(with_reducible refine Kd.C_drewN ?_ _) |(with_reducible refine Kd.C_drew ?_)));(case side4=>exact(Kd.R_reads' HO194.out).2.1);rintro e w' ⟨rfl,⟨nd,rfl⟩⟩))
   go_meet
   exact⟨_,(true),(by first | rfl |(simp;done) |(simp [*];done)),H',⟨by first | omega | exact Nat.le_refl _⟩,⟨by(with_reducible repeat(first | apply Kd.R_alloc | apply Kd.R_drewN | apply Kd.R_drew));exact Kd.R_mono HO173.out (fun _ hk=>hk.2)⟩,⟨by(with_reducible repeat(first | apply Kd.R_alloc | apply Kd.R_drewN | apply Kd.R_drew));exact Kd.R_mono HO180.out (fun _ hk=>hk.2)⟩,⟨by(with_reducible repeat(first | refine bkN ?_ _ | refine bkD ?_ | refine bkA ?_ _));exact BK176.out⟩,⟨by(with_reducible repeat(first | refine bkN ?_ _ | refine bkD ?_ | refine bkA ?_ _));exact BK183.out⟩,⟨by repeat(first |(with_reducible first | exact HB.out | apply bwA | apply bwN | apply bw1 | refine bwS ?_ GE176.out | refine bwS ?_ GE183.out) | exact HB.out)⟩⟩
  rw [if_pos c32] at H
  have c32b0 :(t189 == 0) = true:=beq_iff_eq.mpr c32
  have c32b1 :(t189 != 0) = false:=bne_eq_false_iff_eq.mpr c32
  clear c32
  by_cases c33 : t188 = 1
  rotate_left
  ·rw [if_neg c33] at H
   have c33b0 :(t188 == 1) = false:=beq_eq_false_iff_ne.mpr c33
   have c33b1 :(t188 != 1) = true:=bne_iff_ne.mpr c33
   have H':=Aside0.mk H
   clear H
   have hnb41:=NB176_183.out
   have hnc41:=NB183_176.out
   have hcz42_0 : w21.cell? ⟨gb176,0,none⟩ = some (.bool false):=(bkC BK176.out 0).trans rfl
   have hcz42_1 : w21.cell? ⟨gb176,1,none⟩ = some (.slice Ao13 t171.length co13):=(bkC BK176.out 1).trans rfl
   have hcz42_2 : w21.cell? ⟨gb176,2,none⟩ = some (.string t174):=(bkC BK176.out 2).trans rfl
   have hfz42_0:=bkF BK176.out 0
   have hfz42_1:=bkF BK176.out 1
   have hfz42_2:=bkF BK176.out 2
   have hcz43_0 : w21.cell? ⟨gb183,0,none⟩ = some (.bool true):=(bkC BK183.out 0).trans rfl
   have hcz43_1 : w21.cell? ⟨gb183,1,none⟩ = some (.slice Ao18 t178.length co18):=(bkC BK183.out 1).trans rfl
   have hcz43_2 : w21.cell? ⟨gb183,2,none⟩ = some (.string t181):=(bkC BK183.out 2).trans rfl
   have hfz43_0:=bkF BK183.out 0
   have hfz43_1:=bkF BK183.out 1
   have hfz43_2:=bkF BK183.out 2
   go_wp2_with (first |((with_reducible refine gate_dst (N:=72) rfl ?_);(try(refine gate_guard (by rfl) ?_;dsimp only));refine Kd.R_lit k39 _ 39 ?hg (N:=72) ?hd (xs:=([(⟨4,1,0⟩ : S39),(⟨2,0,0⟩ : S39)] : List (S39))) (inner:=[.int .i64 4,.int .i64 1,.int .i64 0,.int .i64 2,.int .i64 0,.int .i64 0]) (ok:=fun _=>True) (okp:=fun _=>True) ?hr ?hp (fun _ hk=>hk) trivial (Below.refl _ _) (Nat.le_refl _) (by simp) ?_;(case hd=>rfl);(case hg=>rfl);(case hr=>first |(go_simp;done) |(go_simp;rfl));(case hp=>exact(Reps.c3 (show Kd.M k39 _ _ _ (⟨4,1,0⟩ : S39) [.int .i64 4,.int .i64 1,.int .i64 0] from(k39_mkM _ _ _ (⟨4,1,0⟩ : S39) )) (Reps.c3 (show Kd.M k39 _ _ _ (⟨2,0,0⟩ : S39) [.int .i64 2,.int .i64 0,.int .i64 0] from(k39_mkM _ _ _ (⟨2,0,0⟩ : S39) )) (Reps.none _ _))));intro v193 w44 ho45 hb hg_ hnew_;clear hg_ hnew_;(first | rw [← Ny192.out] at ho45 |(simp only [Int.reduceToNat] at ho45;rw [← Ny192.out] at ho45));have n0_:=Aside0.mk (Kd.R_elder' (by(with_reducible repeat(first | apply Kd.R_alloc | apply Kd.R_drewN | apply Kd.R_drew));exact HO169.out) (Kd.R_base ho45) hb);have n1_:=Aside0.mk (Kd.R_below (by(with_reducible repeat(first | apply Kd.R_alloc | apply Kd.R_drewN | apply Kd.R_drew));exact HO173.out) hb);have n2_:=Aside0.mk (Kd.R_below (by(with_reducible repeat(first | apply Kd.R_alloc | apply Kd.R_drewN | apply Kd.R_drew));exact HO180.out) hb);have n3_:=Aside0.mk (Kd.R_elder' (by(with_reducible repeat(first | apply Kd.R_alloc | apply Kd.R_drewN | apply Kd.R_drew));exact HO187.out) (Kd.R_base ho45) hb);have n4_:=Aside0.mk (Kd.R_lower (Kd.R_new' (Kd.R_new' ho45 (Kd.R_lt (by(with_reducible repeat(first | apply Kd.R_alloc | apply Kd.R_drewN | apply Kd.R_drew));exact HO169.out))) (Kd.R_lt (by(with_reducible repeat(first | apply Kd.R_alloc | apply Kd.R_drewN | apply Kd.R_drew));exact HO187.out))) (bwZ (by repeat(first |(with_reducible first | exact HB.out | apply bwA | apply bwN | apply bw1 | refine bwS ?_ GE176.out | refine bwS ?_ GE183.out) | exact HB.out))));have n5_:=Aside0.mk (bkB (g:=gb176) (o:=.cells #[.bool false,.slice Ao13 t171.length co13,.string t174] 55 (0,0)) (by(with_reducible repeat(first | refine bkN ?_ _ | refine bkD ?_ | refine bkA ?_ _));exact BK176.out) hb);have n6_:=Aside0.mk (bkB (g:=gb183) (o:=.cells #[.bool true,.slice Ao18 t178.length co18,.string t181] 55 (0,0)) (by(with_reducible repeat(first | refine bkN ?_ _ | refine bkD ?_ | refine bkA ?_ _));exact BK183.out) hb);have n7_:=Aside0.mk (bwT (by repeat(first |(with_reducible first | exact HB.out | apply bwA | apply bwN | apply bw1 | refine bwS ?_ GE176.out | refine bwS ?_ GE183.out) | exact HB.out)) hb);clear HO169;clear HO173;clear HO180;clear HO187;clear BK176;clear BK183;clear HB;have HO169:=n0_;have HO173:=n1_;have HO180:=n2_;have HO187:=n3_;have HO194:=n4_;have BK176:=n5_;have BK183:=n6_;have HB:=n7_;clear n0_ n1_ n2_ n3_ n4_ n5_ n6_ n7_;clear hb ho45;obtain ⟨Ao46,co46,eo46⟩:=Kd.R_slice HO187.out;subst eo46;obtain ⟨Ao47,co47,eo47⟩:=Kd.R_slice HO194.out;subst eo47) |(go_at_call 20;(with_reducible refine(w06_types.calls k _ _ t184 _ _ y192 true _ ?side1 ?side2 ?side3 ?side4 A30.out).mono ?_);(case side1=>repeat(first | exact(Kd.R_reads' HO187.out).2.2 |(with_reducible refine Kd.C_alloc ?_ _) |(with_reducible refine Kd.C_drewN ?_ _) |(with_reducible refine Kd.C_drew ?_)));(case side2=>exact(Kd.R_reads' HO187.out).2.1);(case side3=>repeat(first | exact(Kd.R_reads' HO194.out).2.2 |(with_reducible refine Kd.C_alloc ?_ _) |(with_reducible refine Kd.C_drewN ?_ _) |(with_reducible refine Kd.C_drew ?_)));(case side4=>exact(Kd.R_reads' HO194.out).2.1);rintro e w' ⟨rfl,⟨nd,rfl⟩⟩))
   go_meet
   exact⟨_,(true),(by first | rfl |(simp;done) |(simp [*];done)),H',⟨by first | omega | exact Nat.le_refl _⟩,⟨by(with_reducible repeat(first | apply Kd.R_alloc | apply Kd.R_drewN | apply Kd.R_drew));exact Kd.R_mono HO173.out (fun _ hk=>hk.2)⟩,⟨by(with_reducible repeat(first | apply Kd.R_alloc | apply Kd.R_drewN | apply Kd.R_drew));exact Kd.R_mono HO180.out (fun _ hk=>hk.2)⟩,⟨by(with_reducible repeat(first | refine bkN ?_ _ | refine bkD ?_ | refine bkA ?_ _));exact BK176.out⟩,⟨by(with_reducible repeat(first | refine bkN ?_ _ | refine bkD ?_ | refine bkA ?_ _));exact BK183.out⟩,⟨by repeat(first |(with_reducible first | exact HB.out | apply bwA | apply bwN | apply bw1 | refine bwS ?_ GE176.out | refine bwS ?_ GE183.out) | exact HB.out)⟩⟩
  rw [if_pos c33] at H
  have c33b0 :(t188 == 1) = true:=beq_iff_eq.mpr c33
  have c33b1 :(t188 != 1) = false:=bne_eq_false_iff_eq.mpr c33
  clear c33
  have H':=Aside0.mk H
  clear H
  have hnb34:=NB176_183.out
  have hnc34:=NB183_176.out
  have hcz35_0 : w21.cell? ⟨gb176,0,none⟩ = some (.bool false):=(bkC BK176.out 0).trans rfl
  have hcz35_1 : w21.cell? ⟨gb176,1,none⟩ = some (.slice Ao13 t171.length co13):=(bkC BK176.out 1).trans rfl
  have hcz35_2 : w21.cell? ⟨gb176,2,none⟩ = some (.string t174):=(bkC BK176.out 2).trans rfl
  have hfz35_0:=bkF BK176.out 0
  have hfz35_1:=bkF BK176.out 1
  have hfz35_2:=bkF BK176.out 2
  have hcz36_0 : w21.cell? ⟨gb183,0,none⟩ = some (.bool true):=(bkC BK183.out 0).trans rfl
  have hcz36_1 : w21.cell? ⟨gb183,1,none⟩ = some (.slice Ao18 t178.length co18):=(bkC BK183.out 1).trans rfl
  have hcz36_2 : w21.cell? ⟨gb183,2,none⟩ = some (.string t181):=(bkC BK183.out 2).trans rfl
  have hfz36_0:=bkF BK183.out 0
  have hfz36_1:=bkF BK183.out 1
  have hfz36_2:=bkF BK183.out 2
  go_wp2_with (first |((with_reducible refine gate_dst (N:=72) rfl ?_);(try(refine gate_guard (by rfl) ?_;dsimp only));refine Kd.R_lit k39 _ 39 ?hg (N:=72) ?hd (xs:=([(⟨4,1,0⟩ : S39),(⟨2,0,0⟩ : S39)] : List (S39))) (inner:=[.int .i64 4,.int .i64 1,.int .i64 0,.int .i64 2,.int .i64 0,.int .i64 0]) (ok:=fun _=>True) (okp:=fun _=>True) ?hr ?hp (fun _ hk=>hk) trivial (Below.refl _ _) (Nat.le_refl _) (by simp) ?_;(case hd=>rfl);(case hg=>rfl);(case hr=>first |(go_simp;done) |(go_simp;rfl));(case hp=>exact(Reps.c3 (show Kd.M k39 _ _ _ (⟨4,1,0⟩ : S39) [.int .i64 4,.int .i64 1,.int .i64 0] from(k39_mkM _ _ _ (⟨4,1,0⟩ : S39) )) (Reps.c3 (show Kd.M k39 _ _ _ (⟨2,0,0⟩ : S39) [.int .i64 2,.int .i64 0,.int .i64 0] from(k39_mkM _ _ _ (⟨2,0,0⟩ : S39) )) (Reps.none _ _))));intro v193 w37 ho38 hb hg_ hnew_;clear hg_ hnew_;(first | rw [← Ny192.out] at ho38 |(simp only [Int.reduceToNat] at ho38;rw [← Ny192.out] at ho38));have n0_:=Aside0.mk (Kd.R_elder' (by(with_reducible repeat(first | apply Kd.R_alloc | apply Kd.R_drewN | apply Kd.R_drew));exact HO169.out) (Kd.R_base ho38) hb);have n1_:=Aside0.mk (Kd.R_below (by(with_reducible repeat(first | apply Kd.R_alloc | apply Kd.R_drewN | apply Kd.R_drew));exact HO173.out) hb);have n2_:=Aside0.mk (Kd.R_below (by(with_reducible repeat(first | apply Kd.R_alloc | apply Kd.R_drewN | apply Kd.R_drew));exact HO180.out) hb);have n3_:=Aside0.mk (Kd.R_elder' (by(with_reducible repeat(first | apply Kd.R_alloc | apply Kd.R_drewN | apply Kd.R_drew));exact HO187.out) (Kd.R_base ho38) hb);have n4_:=Aside0.mk (Kd.R_lower (Kd.R_new' (Kd.R_new' ho38 (Kd.R_lt (by(with_reducible repeat(first | apply Kd.R_alloc | apply Kd.R_drewN | apply Kd.R_drew));exact HO169.out))) (Kd.R_lt (by(with_reducible repeat(first | apply Kd.R_alloc | apply Kd.R_drewN | apply Kd.R_drew));exact HO187.out))) (bwZ (by repeat(first |(with_reducible first | exact HB.out | apply bwA | apply bwN | apply bw1 | refine bwS ?_ GE176.out | refine bwS ?_ GE183.out) | exact HB.out))));have n5_:=Aside0.mk (bkB (g:=gb176) (o:=.cells #[.bool false,.slice Ao13 t171.length co13,.string t174] 55 (0,0)) (by(with_reducible repeat(first | refine bkN ?_ _ | refine bkD ?_ | refine bkA ?_ _));exact BK176.out) hb);have n6_:=Aside0.mk (bkB (g:=gb183) (o:=.cells #[.bool true,.slice Ao18 t178.length co18,.string t181] 55 (0,0)) (by(with_reducible repeat(first | refine bkN ?_ _ | refine bkD ?_ | refine bkA ?_ _));exact BK183.out) hb);have n7_:=Aside0.mk (bwT (by repeat(first |(with_reducible first | exact HB.out | apply bwA | apply bwN | apply bw1 | refine bwS ?_ GE176.out | refine bwS ?_ GE183.out) | exact HB.out)) hb);clear HO169;clear HO173;clear HO180;clear HO187;clear BK176;clear BK183;clear HB;have HO169:=n0_;have HO173:=n1_;have HO180:=n2_;have HO187:=n3_;have HO194:=n4_;have BK176:=n5_;have BK183:=n6_;have HB:=n7_;clear n0_ n1_ n2_ n3_ n4_ n5_ n6_ n7_;clear hb ho38;obtain ⟨Ao39,co39,eo39⟩:=Kd.R_slice HO187.out;subst eo39;obtain ⟨Ao40,co40,eo40⟩:=Kd.R_slice HO194.out;subst eo40) |(go_at_call 20;(with_reducible refine(w06_types.calls k _ _ t184 _ _ y192 true _ ?side1 ?side2 ?side3 ?side4 A30.out).mono ?_);(case side1=>repeat(first | exact(Kd.R_reads' HO187.out).2.2 |(with_reducible refine Kd.C_alloc ?_ _) |(with_reducible refine Kd.C_drewN ?_ _) |(with_reducible refine Kd.C_drew ?_)));(case side2=>exact(Kd.R_reads' HO187.out).2.1);(case side3=>repeat(first | exact(Kd.R_reads' HO194.out).2.2 |(with_reducible refine Kd.C_alloc ?_ _) |(with_reducible refine Kd.C_drewN ?_ _) |(with_reducible refine Kd.C_drew ?_)));(case side4=>exact(Kd.R_reads' HO194.out).2.1);rintro e w' ⟨rfl,⟨nd,rfl⟩⟩))
  go_meet
  exact⟨_,((t191 != 6)),(by first | rfl |(simp;done) |(simp [*];done)),H',⟨by first | omega | exact Nat.le_refl _⟩,⟨by(with_reducible repeat(first | apply Kd.R_alloc | apply Kd.R_drewN | apply Kd.R_drew));exact Kd.R_mono HO173.out (fun _ hk=>hk.2)⟩,⟨by(with_reducible repeat(first | apply Kd.R_alloc | apply Kd.R_drewN | apply Kd.R_drew));exact Kd.R_mono HO180.out (fun _ hk=>hk.2)⟩,⟨by(with_reducible repeat(first | refine bkN ?_ _ | refine bkD ?_ | refine bkA ?_ _));exact BK176.out⟩,⟨by(with_reducible repeat(first | refine bkN ?_ _ | refine bkD ?_ | refine bkA ?_ _));exact BK183.out⟩,⟨by repeat(first |(with_reducible first | exact HB.out | apply bwA | apply bwN | apply bw1 | refine bwS ?_ GE176.out | refine bwS ?_ GE183.out) | exact HB.out)⟩⟩
 case rest =>
  clear HC6
  try clear c1
  try clear c2
  try clear p2
  try clear c3
  try clear c4
  try clear c5
  try clear c6
  try clear c7
  try clear c16
  try clear c17
  try clear c19
  try clear c22
  try clear c22b0
  try clear c22b1
  try clear c23
  try clear c24
  try clear c26
  try clear c26b0
  try clear c26b1
  try clear c27
  try clear c27b0
  try clear c27b1
  try clear c28
  try clear c29
  try clear c29b0
  try clear c29b1
  try clear c31
  try clear c32
  try clear c32b0
  try clear c32b1
  try clear c33
  try clear c33b0
  try clear c33b1
  try clear c34
  try clear c41
  try clear c48
  try clear c55
  try clear c62
  try clear c65
  try clear c68
  try clear c70
  try clear hcz12_0
  try clear hcz12_1
  try clear hcz12_2
  try clear hcz17_0
  try clear hcz17_1
  try clear hcz17_2
  try clear hcz25_0
  try clear hcz25_1
  try clear hcz25_2
  try clear hcz35_0
  try clear hcz35_1
  try clear hcz35_2
  try clear hcz36_0
  try clear hcz36_1
  try clear hcz36_2
  try clear hcz42_0
  try clear hcz42_1
  try clear hcz42_2
  try clear hcz43_0
  try clear hcz43_1
  try clear hcz43_2
  try clear hcz49_0
  try clear hcz49_1
  try clear hcz49_2
  try clear hcz50_0
  try clear hcz50_1
  try clear hcz50_2
  try clear hcz56_0
  try clear hcz56_1
  try clear hcz56_2
  try clear hcz57_0
  try clear hcz57_1
  try clear hcz57_2
  try clear hcz63_0
  try clear hcz63_1
  try clear hcz63_2
  try clear hcz64_0
  try clear hcz64_1
  try clear hcz64_2
  try clear hcz66_0
  try clear hcz66_1
  try clear hcz66_2
  try clear hcz67_0
  try clear hcz67_1
  try clear hcz67_2
  try clear hcz69_0
  try clear hcz69_1
  try clear hcz69_2
  try clear hcz71_0
  try clear hcz71_1
  try clear hcz71_2
  try clear hfz12_0
  try clear hfz12_1
  try clear hfz12_2
  try clear hfz17_0
  try clear hfz17_1
  try clear hfz17_2
  try clear hfz25_0
  try clear hfz25_1
  try clear hfz25_2
  try clear hfz35_0
  try clear hfz35_1
  try clear hfz35_2
  try clear hfz36_0
  try clear hfz36_1
  try clear hfz36_2
  try clear hfz42_0
  try clear hfz42_1
  try clear hfz42_2
  try clear hfz43_0
  try clear hfz43_1
  try clear hfz43_2
  try clear hfz49_0
  try clear hfz49_1
  try clear hfz49_2
  try clear hfz50_0
  try clear hfz50_1
  try clear hfz50_2
  try clear hfz56_0
  try clear hfz56_1
  try clear hfz56_2
  try clear hfz57_0
  try clear hfz57_1
  try clear hfz57_2
  try clear hfz63_0
  try clear hfz63_1
  try clear hfz63_2
  try clear hfz64_0
  try clear hfz64_1
  try clear hfz64_2
  try clear hfz66_0
  try clear hfz66_1
  try clear hfz66_2
  try clear hfz67_0
  try clear hfz67_1
  try clear hfz67_2
  try clear hfz69_0
  try clear hfz69_1
  try clear hfz69_2
  try clear hfz71_0
  try clear hfz71_1
  try clear hfz71_2
  obtain ⟨kq,x87_5,rfl,HA,HJ5,HO_177001,HO_184001,BK176,BK183,HB⟩:=hcut
  cases kq with
  | zero=>exact absurd HA.out (by simp [w06_awake.j0])
  | succ kj5 =>
   have H:=HA.out
   clear HA
   simp only [w06_awake.j0] at H
   by_cases c72 : x87_5 = true
   ·subst c72
    have H1 :(some false) = some r:=by rw [if_pos rfl] at H;exact H
    clear H
    have H:=H1
    clear H1
    obtain rfl:=Option.some.inj H
    go_wp2
    go_ret
    exact⟨by first | rfl |(simp [errW_none,errW_some] <;> rfl) |(simp [*,errW_none,errW_some] <;> rfl),by repeat(first |(with_reducible first | exact HB.out | apply bwA | apply bwN | apply bw1 | refine bwS ?_ GE176.out | refine bwS ?_ GE183.out) | exact HB.out)⟩
   replace c72:=Bool.eq_false_iff.mpr c72
   subst c72
   have H1 :(some true) = some r:=by rw [if_neg (show ¬ (false = true) by decide)] at H;exact H
   clear H
   have H:=H1
   clear H1
   obtain rfl:=Option.some.inj H
   go_wp2
   go_ret
   exact⟨by first | rfl |(simp [errW_none,errW_some] <;> rfl) |(simp [*,errW_none,errW_some] <;> rfl),by repeat(first |(with_reducible first | exact HB.out | apply bwA | apply bwN | apply bw1 | refine bwS ?_ GE176.out | refine bwS ?_ GE183.out) | exact HB.out)⟩

def w06_mod.f (a0 : Int) (a1 : Int) : Option (Int):=if(IntKind.u64.wrap (a1)) = 0 then(none) else(some (wrap64 (Int.tmod (IntKind.u64.wrap (a0)) (IntKind.u64.wrap (a1)))))
set_option maxHeartbeats 8000000 in
set_option maxRecDepth 100000 in
theorem w06_mod.calls (a0 : Int) (a1 : Int) (r : Int) (w : World) (h : w06_mod.f a0 a1 = some r) :
  Calls Try.prog 24 #[.int .i64 a0,.int .i64 a1] w fun e w'=>e = .returned (.int .i64 r)∧Drawn0 w w':=by
 have H :(if(IntKind.u64.wrap (a1)) = 0 then(none) else(some (wrap64 (Int.tmod (IntKind.u64.wrap (a0)) (IntKind.u64.wrap (a1)))))) = some r:=h
 clear h
 by_cases c3 :(IntKind.u64.wrap (a1)) = 0
 ·rw [if_pos c3] at H
  exact absurd H (by simp)
 rw [if_neg c3] at H
 have c3b0 :((IntKind.u64.wrap (a1)) == 0) = false:=beq_eq_false_iff_ne.mpr c3
 have c3b1 :((IntKind.u64.wrap (a1)) != 0) = true:=bne_iff_ne.mpr c3
 obtain rfl:=Option.some.inj H
 go_enter Try.func24,Try.ntmps24
 go_wp2
 go_ret
 exact⟨by first | rfl |(simp;done) |(simp [*];done),by repeat(first | exact Drawn0.refl _ | apply Drawn0.step)⟩
end Go.Proofs.Ytnfmeafiaipplaa.S

namespace Go.Proofs.Ytnfmeafiaipplaa.S
open Go.Proofs.Ytnfmeafiaipplaa.Lib
open Go.RowKit Go.Proofs.YtnfmeafiaipplaaW.PrintWords Go.Proofs.YtnfmeafiaipplaaW.PrintLast Go.Proofs.YtnfmeafiaipplaaW.PrintMore
set_option linter.unusedVariables false

structure Box (w : World) (g : Nat) (v : Value) (xs : List S39) (x y z : Int) (W : World) : Prop where
 low : w.heap.size≤g
 below : Below w.heap.size w W
 blk : W.heap[g]? = some (.cells #[.int .i64 x,.int .i64 y,.int .i64 z] 39 (0,0))
 row : Kd.R k39 39 W w.heap.size (fun k=>k≠g) v xs
section
variable {w W W0 : World} {g : Nat} {v : Value} {xs : List S39} {x y z : Int}
theorem Box.put0 (h : Box w g v xs x y z W) (u : Int) : Box w g v xs u y z (W.setCell ⟨g,0,none⟩ (.int .i64 u)):=⟨h.low,bwS h.below h.low,blk_put h.blk 0 _ rfl,Kd.R_far (p:=⟨g,0,none⟩) h.row (fun _ hk=>hk) _⟩
theorem Box.put1 (h : Box w g v xs x y z W) (u : Int) : Box w g v xs x u z (W.setCell ⟨g,1,none⟩ (.int .i64 u)):=⟨h.low,bwS h.below h.low,blk_put h.blk 1 _ rfl,Kd.R_far (p:=⟨g,1,none⟩) h.row (fun _ hk=>hk) _⟩
theorem Box.put2 (h : Box w g v xs x y z W) (u : Int) : Box w g v xs x y u (W.setCell ⟨g,2,none⟩ (.int .i64 u)):=⟨h.low,bwS h.below h.low,blk_put h.blk 2 _ rfl,Kd.R_far (p:=⟨g,2,none⟩) h.row (fun _ hk=>hk) _⟩
theorem Box.drewN (h : Box w g v xs x y z W) (n : Nat) : Box w g v xs x y z (W.drewN n):=⟨h.low,bwN h.below n,h.blk,Kd.R_drewN h.row n⟩
theorem Box.drew (h : Box w g v xs x y z W) : Box w g v xs x y z W.drew:=⟨h.low,bw1 h.below,h.blk,Kd.R_drew h.row⟩
theorem Box.made {ok : Nat→Prop} (hB : Below w.heap.size w W0) (hR : Kd.R k39 39 W0 w.heap.size ok v xs) (hg : g = W0.heap.size) (hbox : W.heap[g]? = some (.cells #[.int .i64 0,.int .i64 0,.int .i64 0] 39 (0,0))) (hb : Below W0.heap.size W0 W) : Box w g v xs 0 0 0 W :=
 ⟨by rw [hg];exact hB.size,bwT hB hb,hbox,Kd.R_mono (Kd.R_below (Kd.R_elderB hR g (Nat.le_of_eq hg.symm)) hb) (fun _ hk=>hk.2)⟩
theorem Box.cell0 (h : Box w g v xs x y z W) : W.cell? ⟨g,0,none⟩ = some (.int .i64 x):=(bkC h.blk 0).trans rfl
theorem Box.cell1 (h : Box w g v xs x y z W) : W.cell? ⟨g,1,none⟩ = some (.int .i64 y):=(bkC h.blk 1).trans rfl
theorem Box.cell2 (h : Box w g v xs x y z W) : W.cell? ⟨g,2,none⟩ = some (.int .i64 z):=(bkC h.blk 2).trans rfl
theorem Box.fz (h : Box w g v xs x y z W) (i : Nat) : W.frozen? ⟨g,i,none⟩ = false:=bkF h.blk i
/-- What lay in memory ahead. -/
theorem Box.old (h : Box w g v xs x y z W) {a : Addr} {u : Value} (hc : w.cell? a = some u) : W.cell? a = some u:=(h.below.cell (World.block_lt_of_cell? w _ hc)).trans hc
end
section
variable {P : Program} {ops : Array Oper} {rest : List Oper} {o : Oper} {a : Act} {Q : Exit → Act → World → Prop}
theorem put_event {w W W1 : World} {g : Nat} {vv : Value} {xs : List S39} (x y z : Int) (hgd : o.guard = none) {t : TypeId} {p : Tmp} {vo : Operand} (ho : o.op = .store t (.tmp p) vo) (hN : o.dst = none)
  (hrun :(execOp a.eval o).run P W = .ok .skip W1) (hb : Box w g vv xs x y z W1) (h : ∀ W',Box w g vv xs x y z W'→wpList P ops Q rest a W') : wpList P ops Q (o :: rest) a W :=
 store_event hgd ho hN hrun (fun w' e=>h w' (e ▸ hb))
end
end Go.Proofs.Ytnfmeafiaipplaa.S
