/-
Printed by dec2.py: of each function its plain demand, and that the demand gives the contract.
-/
import Derived.Test.YtfpchbpnoggogaaGenIb
set_option linter.unusedSimpArgs false
set_option linter.unusedVariables false
set_option maxRecDepth 100000
namespace Dec
open Go Go.RowKit Go.Proofs
abbrev e18_0 (g : TG) : Nat × Path × Con := hB 1 [.pI g.1, .pI g.2.1, .pI g.2.2.1, .p (.sl tR) g.2.2.2]
abbrev e18_1 (g : TG) : Nat × Path × AV := s1 54 (.p (.sl tR) g.2.2.2)
abbrev e18_2 (g : TG) : Nat × Path × AV := s1 32 (.p (.sl tR) g.2.2.2)
abbrev e18_3 (g : TG) (v56 : Int) : Nat × Path × AV := sB 70 ((decide ((g.2.2.2.getD (v56).toNat ((0 : Int), ([] : LI))).1 < (0 : Int))) || (decide (g.2.1 ≤ (g.2.2.2.getD (v56).toNat ((0 : Int), ([] : LI))).1)))
abbrev e18_4 (g : TG) : Nat × Path × AV := sI 55 (g.2.2.2.length : Int)
abbrev e18_5 (g : TG) : Nat × Path × AV := sI 33 (g.2.2.2.length : Int)
-- coppicer/coppicerref.GrammarCheck
def VC18_k2 (K : Int → Prop) : Prop :=
  K (0 : Int)
def VC18_l1 (g : TG) (K : Int → Prop) (v56 : Int) (X1 : Int → Prop) : Prop :=
  (((decide (v56 < (g.2.2.2.length : Int))) = true → (inIdx v56 g.2.2.2.length ∧ gcall (α := Bool) (!((decide ((g.2.2.2.getD (v56).toNat ((0 : Int), ([] : LI))).1 < (0 : Int))) || (decide (g.2.1 ≤ (g.2.2.2.getD (v56).toNat ((0 : Int), ([] : LI))).1)))) (VC43 g ((g.2.2.2.getD (v56).toNat ((0 : Int), ([] : LI))).2)) false (fun (ret74v : Bool) => (((((decide ((g.2.2.2.getD (v56).toNat ((0 : Int), ([] : LI))).1 < (0 : Int))) || (decide (g.2.1 ≤ (g.2.2.2.getD (v56).toNat ((0 : Int), ([] : LI))).1))) || (!ret74v)) = true → K (2 : Int)) ∧ ((((decide ((g.2.2.2.getD (v56).toNat ((0 : Int), ([] : LI))).1 < (0 : Int))) || (decide (g.2.1 ≤ (g.2.2.2.getD (v56).toNat ((0 : Int), ([] : LI))).1))) || (!ret74v)) = false → (InR (v56 + (1 : Int)) ∧ X1 (v56 + (1 : Int)))))))) ∧ ((decide (v56 < (g.2.2.2.length : Int))) = false → VC18_k2 K))
def VC18_k1 (g : TG) (K : Int → Prop) : Prop :=
  ((((decide (g.2.2.1 < (0 : Int))) || (decide (g.2.1 ≤ g.2.2.1))) = true → K (2 : Int)) ∧ (((decide (g.2.2.1 < (0 : Int))) || (decide (g.2.1 ≤ g.2.2.1))) = false → Loop (σ := Int) (fun s X => VC18_l1 g K s X) (0 : Int)))
def VC18_l2 (g : TG) (K : Int → Prop) (v34 : Int) (X2 : Int → Prop) : Prop :=
  (((decide (v34 < (g.2.2.2.length : Int))) = true → (inIdx v34 g.2.2.2.length ∧ (((decide ((4 : Int) < (((g.2.2.2.getD (v34).toNat ((0 : Int), ([] : LI))).2).length : Int))) = true → K (1 : Int)) ∧ ((decide ((4 : Int) < (((g.2.2.2.getD (v34).toNat ((0 : Int), ([] : LI))).2).length : Int))) = false → (InR (v34 + (1 : Int)) ∧ X2 (v34 + (1 : Int))))))) ∧ ((decide (v34 < (g.2.2.2.length : Int))) = false → VC18_k1 g K))
def VC18 (g : TG) (K : Int → Prop) : Prop :=
  (((((((decide (g.1 < (1 : Int))) || (decide ((3 : Int) < g.1))) || (decide (g.2.1 < (1 : Int)))) || (decide ((5 : Int) < g.2.1))) || (decide ((10 : Int) < (g.2.2.2.length : Int)))) = true → K (1 : Int)) ∧ ((((((decide (g.1 < (1 : Int))) || (decide ((3 : Int) < g.1))) || (decide (g.2.1 < (1 : Int)))) || (decide ((5 : Int) < g.2.1))) || (decide ((10 : Int) < (g.2.2.2.length : Int)))) = false → Loop (σ := Int) (fun s X => VC18_l2 g K s X) (0 : Int)))
set_option maxHeartbeats 4000000 in
theorem link18 (g : TG) (K : Int → Prop) (h : VC18 g K) : ACalls Try.prog 18 [toV1 tG g] (fun res => ∃ y, res = (fun y => [toV1 tI y]) y ∧ K y) := by
 refine acalls_of_aw [tI] [.t 2] Try.func18 rfl rfl rfl ?_
 unfold VC18 at h
 refine srn 2 ⟨78, [sp 1 1], [e18_0 g]⟩ (by kernel_rfl) rfl ?_
 refine aw_seq ?_
 refine sr ?_
 refine rq 24 (ob := (Ts 4 (Ti 3 ((decide (g.1 < (1 : Int))) = false → True) (Ts 2 (Ti 3 (((decide (g.1 < (1 : Int))) || (decide ((3 : Int) < g.1))) = false → True) (Ts 2 (Ti 3 ((((decide (g.1 < (1 : Int))) || (decide ((3 : Int) < g.1))) || (decide (g.2.1 < (1 : Int)))) = false → True) (Ts 2 (Ti 4 (((((decide (g.1 < (1 : Int))) || (decide ((3 : Int) < g.1))) || (decide (g.2.1 < (1 : Int)))) || (decide ((5 : Int) < g.2.1))) = false → True) (Ts 1 True)))))))))) (st' := (⟨78, [sp 1 1, sB 30 (((((decide (g.1 < (1 : Int))) || (decide ((3 : Int) < g.1))) || (decide (g.2.1 < (1 : Int)))) || (decide ((5 : Int) < g.2.1))) || (decide ((10 : Int) < (g.2.2.2.length : Int))))], [e18_0 g]⟩ : St)) (by kernel_rfl) (tsI 4 (tiI 3 (fun _ => trivial) (tsI 2 (tiI 3 (fun _ => trivial) (tsI 2 (tiI 3 (fun _ => trivial) (tsI 2 (tiI 4 (fun _ => trivial) (tsI 1 trivial))))))))) ?_
 refine nn ?_
 refine aw_cond (b := (((((decide (g.1 < (1 : Int))) || (decide ((3 : Int) < g.1))) || (decide (g.2.1 < (1 : Int)))) || (decide ((5 : Int) < g.2.1))) || (decide ((10 : Int) < (g.2.2.2.length : Int))))) (by kernel_rfl) (fun hb => ?_) (fun hb => ?_)
 ·have h := h.1 hb
  refine srn 1 ⟨78, [sI 2 (1 : Int)], []⟩ (by kernel_rfl) rfl ?_
  refine aw_ret ?_
  refine thenQ_r ?_
  exact retQ_r (ob := Ts 1 True) _ (by kernel_rfl) (tsI 1 trivial) h
 ·have h := h.2 hb
  refine aw_skip ?_
  refine thenQ_n ?_
  refine aw_seq ?_
  refine srn 4 ⟨78, [sp 1 1, e18_2 g, e18_5 g, sI 34 (0 : Int)], [e18_0 g]⟩ (by kernel_rfl) rfl ?_
  refine withJoin (σ := Unit) (fun s => (⟨78, [sp 1 1], [e18_0 g]⟩ : St)) (fun s => VC18_k1 g K) (fun s h => ?_) (fun rest2 => ?_)
  ·have h : VC18_k1 g K := h
   unfold VC18_k1 at h
   refine thenQ_n ?_
   refine aw_seq ?_
   refine sr ?_
   refine rq 10 (ob := (Ts 4 (Ti 5 ((decide (g.2.2.1 < (0 : Int))) = false → True) (Ts 1 True)))) (st' := (⟨78, [sp 1 1, sB 52 ((decide (g.2.2.1 < (0 : Int))) || (decide (g.2.1 ≤ g.2.2.1)))], [e18_0 g]⟩ : St)) (by kernel_rfl) (tsI 4 (tiI 5 (fun _ => trivial) (tsI 1 trivial))) ?_
   refine nn ?_
   refine aw_cond (b := ((decide (g.2.2.1 < (0 : Int))) || (decide (g.2.1 ≤ g.2.2.1)))) (by kernel_rfl) (fun hb => ?_) (fun hb => ?_)
   ·have h := h.1 hb
    refine srn 1 ⟨78, [sI 2 (2 : Int)], []⟩ (by kernel_rfl) rfl ?_
    refine aw_ret ?_
    refine thenQ_r ?_
    exact retQ_r (ob := Ts 1 True) _ (by kernel_rfl) (tsI 1 trivial) h
   ·have h := h.2 hb
    refine aw_skip ?_
    refine thenQ_n ?_
    refine aw_seq ?_
    refine srn 4 ⟨78, [sp 1 1, e18_1 g, e18_4 g, sI 56 (0 : Int)], [e18_0 g]⟩ (by kernel_rfl) rfl ?_
    refine withJoin (σ := Unit) (fun s => (⟨78, [], []⟩ : St)) (fun s => VC18_k2 K) (fun s h => ?_) (fun rest1 => ?_)
    ·have h : VC18_k2 K := h
     unfold VC18_k2 at h
     refine thenQ_n ?_
     refine srn 1 ⟨78, [sI 2 (0 : Int)], []⟩ (by kernel_rfl) rfl ?_
     refine aw_ret ?_
     exact retQ_r (ob := Ts 1 True) _ (by kernel_rfl) (tsI 1 trivial) h
    ·refine aw_block ?_
     refine aw_loop (σ := Int) (fun s => (⟨78, [sp 1 1, e18_1 g, e18_4 g, sI 56 s], [e18_0 g]⟩ : St)) (fun s X => VC18_l1 g K s X) (s0 := (0 : Int)) (fun v56 X1 h => ?_) h
     have h : VC18_l1 g K v56 X1 := h
     unfold VC18_l1 at h
     refine srn 1 ⟨78, [sp 1 1, e18_1 g, e18_4 g, sI 56 v56, sB 57 (decide (v56 < (g.2.2.2.length : Int)))], [e18_0 g]⟩ (by kernel_rfl) rfl ?_
     refine aw_seq ?_
     refine aw_cond (b := (decide (v56 < (g.2.2.2.length : Int)))) (by kernel_rfl) (fun hb => ?_) (fun hb => ?_)
     ·have h := h.1 hb
      refine aw_skip ?_
      refine thenQ_n ?_
      refine aw_seq ?_
      refine aw_block ?_
      refine sr ?_
      obtain ⟨o1, h⟩ := h
      refine rq 4 (ob := (inIdx v56 g.2.2.2.length ∧ Ts 3 True)) (st' := (⟨78, [sp 1 1, sp 6 6, e18_1 g, e18_4 g, sI 56 v56], [e18_0 g, hB 6 [.pI ((g.2.2.2.getD (v56).toNat ((0 : Int), ([] : LI))).1), .pS ((g.2.2.2.getD (v56).toNat ((0 : Int), ([] : LI))).2)]]⟩ : St)) (by kernel_rfl) (⟨o1, tsI 3 trivial⟩) ?_
      refine nsr ?_
      refine rq 14 (ob := (Ts 4 (Ti 5 ((decide ((g.2.2.2.getD (v56).toNat ((0 : Int), ([] : LI))).1 < (0 : Int))) = false → True) (Ts 2 (Ti 3 (((decide ((g.2.2.2.getD (v56).toNat ((0 : Int), ([] : LI))).1 < (0 : Int))) || (decide (g.2.1 ≤ (g.2.2.2.getD (v56).toNat ((0 : Int), ([] : LI))).1))) = false → True) True))))) (st' := (⟨78, [sp 1 1, e18_1 g, e18_4 g, sI 56 v56, e18_3 g v56, (71, [(70, false)], .v (.agg [.pI g.1, .pI g.2.1, .pI g.2.2.1, .p (.sl tR) g.2.2.2])), (73, [(70, false)], .v (.c (.pS ((g.2.2.2.getD (v56).toNat ((0 : Int), ([] : LI))).2))))], [e18_0 g]⟩ : St)) (by kernel_rfl) (tsI 4 (tiI 5 (fun _ => trivial) (tsI 2 (tiI 3 (fun _ => trivial) trivial)))) ?_
      refine awl_callk (p := [(70, false)]) (l := [toV1 tG g, toV1 (.sl tI) ((g.2.2.2.getD (v56).toNat ((0 : Int), ([] : LI))).2)]) (cl := []) false [.d tG, .d (.sl tI)] [1, 54, 55, 56, 70, 74] [1] (fun (ret74v : Bool) => (((((decide ((g.2.2.2.getD (v56).toNat ((0 : Int), ([] : LI))).1 < (0 : Int))) || (decide (g.2.1 ≤ (g.2.2.2.getD (v56).toNat ((0 : Int), ([] : LI))).1))) || (!ret74v)) = true → K (2 : Int)) ∧ ((((decide ((g.2.2.2.getD (v56).toNat ((0 : Int), ([] : LI))).1 < (0 : Int))) || (decide (g.2.1 ≤ (g.2.2.2.getD (v56).toNat ((0 : Int), ([] : LI))).1))) || (!ret74v)) = false → (InR (v56 + (1 : Int)) ∧ X1 (v56 + (1 : Int)))))) (fun ret74v => [toV1 .bool ret74v]) (fun ret74v => (⟨78, [sp 1 1, e18_1 g, e18_4 g, sI 56 v56, e18_3 g v56, (74, [(70, false)], .v (.c (.pB ret74v)))], [e18_0 g]⟩ : St)) (by kernel_rfl) rfl (by kernel_rfl) rfl (by kernel_rfl) Try.call43 (by kernel_rfl) (fun ret74v => by kernel_rfl) (fun e => by cases e) (fun hg => link43 g ((g.2.2.2.getD (v56).toNat ((0 : Int), ([] : LI))).2) _ (by have := gcall_T h (show (!((decide ((g.2.2.2.getD (v56).toNat ((0 : Int), ([] : LI))).1 < (0 : Int))) || (decide (g.2.1 ≤ (g.2.2.2.getD (v56).toNat ((0 : Int), ([] : LI))).1)))) = true from hg); exact this)) (fun hg => ⟨false, by have := gcall_F h (show (!((decide ((g.2.2.2.getD (v56).toNat ((0 : Int), ([] : LI))).1 < (0 : Int))) || (decide (g.2.1 ≤ (g.2.2.2.getD (v56).toNat ((0 : Int), ([] : LI))).1)))) = false from hg); exact this⟩) (fun ret74v h => ?_)
      refine rq 2 (ob := ((((decide ((g.2.2.2.getD (v56).toNat ((0 : Int), ([] : LI))).1 < (0 : Int))) || (decide (g.2.1 ≤ (g.2.2.2.getD (v56).toNat ((0 : Int), ([] : LI))).1))) = false → True) ∧ Ts 1 True)) (st' := (⟨78, [sp 1 1, e18_1 g, e18_4 g, sI 56 v56, sB 76 (((decide ((g.2.2.2.getD (v56).toNat ((0 : Int), ([] : LI))).1 < (0 : Int))) || (decide (g.2.1 ≤ (g.2.2.2.getD (v56).toNat ((0 : Int), ([] : LI))).1))) || (!ret74v))], [e18_0 g]⟩ : St)) (by kernel_rfl) (⟨(fun _ => trivial), tsI 1 trivial⟩) ?_
      refine nn ?_
      refine aw_cond (b := (((decide ((g.2.2.2.getD (v56).toNat ((0 : Int), ([] : LI))).1 < (0 : Int))) || (decide (g.2.1 ≤ (g.2.2.2.getD (v56).toNat ((0 : Int), ([] : LI))).1))) || (!ret74v))) (by kernel_rfl) (fun hb => ?_) (fun hb => ?_)
      ·have h := h.1 hb
       refine srn 1 ⟨78, [sI 2 (2 : Int)], []⟩ (by kernel_rfl) rfl ?_
       refine aw_ret ?_
       refine blockQ_r ?_
       refine thenQ_r ?_
       refine thenQ_r ?_
       refine blockQ_r ?_
       refine thenQ_r ?_
       exact retQ_r (ob := Ts 1 True) _ (by kernel_rfl) (tsI 1 trivial) h
      ·have h := h.2 hb
       refine aw_skip ?_
       refine blockQ_n ?_
       refine thenQ_n ?_
       refine aw_region ?_
       obtain ⟨o1, h⟩ := h
       refine rq 2 (ob := (InR (v56 + (1 : Int)) ∧ Ts 1 True)) (st' := (⟨78, [sp 1 1, e18_1 g, e18_4 g, sI 56 (v56 + (1 : Int))], [e18_0 g]⟩ : St)) (by kernel_rfl) (⟨o1, tsI 1 trivial⟩) ?_
       refine awl_nil ?_
       exact thenQ_n ⟨(v56 + (1 : Int)), rfl, h⟩
     ·have h := h.2 hb
      refine cpr (st' := (⟨78, [], []⟩ : St)) (by kernel_rfl) ?_
      refine aw_exit ?_
      refine thenQ_x ?_
      refine thenQ_x ?_
      refine blockQ_hit ?_
      exact rest1 () h
  ·refine aw_block ?_
   refine aw_loop (σ := Int) (fun s => (⟨78, [sp 1 1, e18_2 g, e18_5 g, sI 34 s], [e18_0 g]⟩ : St)) (fun s X => VC18_l2 g K s X) (s0 := (0 : Int)) (fun v34 X2 h => ?_) h
   have h : VC18_l2 g K v34 X2 := h
   unfold VC18_l2 at h
   refine srn 1 ⟨78, [sp 1 1, e18_2 g, e18_5 g, sI 34 v34, sB 35 (decide (v34 < (g.2.2.2.length : Int)))], [e18_0 g]⟩ (by kernel_rfl) rfl ?_
   refine aw_seq ?_
   refine aw_cond (b := (decide (v34 < (g.2.2.2.length : Int)))) (by kernel_rfl) (fun hb => ?_) (fun hb => ?_)
   ·have h := h.1 hb
    refine aw_skip ?_
    refine thenQ_n ?_
    refine aw_seq ?_
    refine aw_block ?_
    refine sr ?_
    obtain ⟨o1, h⟩ := h
    refine rq 4 (ob := (inIdx v34 g.2.2.2.length ∧ Ts 3 True)) (st' := (⟨78, [sp 1 1, sp 4 4, e18_2 g, e18_5 g, sI 34 v34], [e18_0 g, hB 4 [.pI ((g.2.2.2.getD (v34).toNat ((0 : Int), ([] : LI))).1), .pS ((g.2.2.2.getD (v34).toNat ((0 : Int), ([] : LI))).2)]]⟩ : St)) (by kernel_rfl) (⟨o1, tsI 3 trivial⟩) ?_
    refine nsr ?_
    refine rqT 4 ⟨78, [sp 1 1, e18_2 g, e18_5 g, sI 34 v34, sB 41 (decide ((4 : Int) < (((g.2.2.2.getD (v34).toNat ((0 : Int), ([] : LI))).2).length : Int)))], [e18_0 g]⟩ (by kernel_rfl) ?_
    refine nn ?_
    refine aw_cond (b := (decide ((4 : Int) < (((g.2.2.2.getD (v34).toNat ((0 : Int), ([] : LI))).2).length : Int)))) (by kernel_rfl) (fun hb => ?_) (fun hb => ?_)
    ·have h := h.1 hb
     refine srn 1 ⟨78, [sI 2 (1 : Int)], []⟩ (by kernel_rfl) rfl ?_
     refine aw_ret ?_
     refine blockQ_r ?_
     refine thenQ_r ?_
     refine thenQ_r ?_
     refine blockQ_r ?_
     refine thenQ_r ?_
     exact retQ_r (ob := Ts 1 True) _ (by kernel_rfl) (tsI 1 trivial) h
    ·have h := h.2 hb
     refine aw_skip ?_
     refine blockQ_n ?_
     refine thenQ_n ?_
     refine aw_region ?_
     obtain ⟨o1, h⟩ := h
     refine rq 2 (ob := (InR (v34 + (1 : Int)) ∧ Ts 1 True)) (st' := (⟨78, [sp 1 1, e18_2 g, e18_5 g, sI 34 (v34 + (1 : Int))], [e18_0 g]⟩ : St)) (by kernel_rfl) (⟨o1, tsI 1 trivial⟩) ?_
     refine awl_nil ?_
     exact thenQ_n ⟨(v34 + (1 : Int)), rfl, h⟩
   ·have h := h.2 hb
    refine cpr (st' := (⟨78, [sp 1 1], [e18_0 g]⟩ : St)) (by kernel_rfl) ?_
    refine aw_exit ?_
    refine thenQ_x ?_
    refine thenQ_x ?_
    refine blockQ_hit ?_
    exact rest2 () h
abbrev e46_0 (w : LI) : Nat × Path × AV := sI 11 (w.length : Int)
-- coppicer/coppicerref.WordCheck
def VC46_k1 (K : Int → Prop) : Prop :=
  K (0 : Int)
def VC46_l1 (k : Int) (w : LI) (K : Int → Prop) (v12 : Int) (X1 : Int → Prop) : Prop :=
  (((decide (v12 < (w.length : Int))) = true → (inIdx v12 w.length ∧ ((((decide ((w.getD (v12).toNat (0 : Int)) < (0 : Int))) || (decide (k ≤ (w.getD (v12).toNat (0 : Int))))) = true → K (2 : Int)) ∧ (((decide ((w.getD (v12).toNat (0 : Int)) < (0 : Int))) || (decide (k ≤ (w.getD (v12).toNat (0 : Int))))) = false → (InR (v12 + (1 : Int)) ∧ X1 (v12 + (1 : Int))))))) ∧ ((decide (v12 < (w.length : Int))) = false → VC46_k1 K))
def VC46 (k : Int) (w : LI) (K : Int → Prop) : Prop :=
  (((decide ((12 : Int) < (w.length : Int))) = true → K (1 : Int)) ∧ ((decide ((12 : Int) < (w.length : Int))) = false → Loop (σ := Int) (fun s X => VC46_l1 k w K s X) (0 : Int)))
set_option maxHeartbeats 4000000 in
theorem link46 (k : Int) (w : LI) (K : Int → Prop) (h : VC46 k w K) : ACalls Try.prog 46 [toV1 tI k, toV1 (.sl tI) w] (fun res => ∃ y, res = (fun y => [toV1 tI y]) y ∧ K y) := by
 refine acalls_of_aw [tI] [.t 4] Try.func46 rfl rfl rfl ?_
 unfold VC46 at h
 refine srn 1 ⟨24, [sI 0 k, s1 1 (.pS w)], []⟩ (by kernel_rfl) rfl ?_
 refine aw_seq ?_
 refine srn 3 ⟨24, [sI 0 k, s1 1 (.pS w), sB 9 (decide ((12 : Int) < (w.length : Int)))], []⟩ (by kernel_rfl) rfl ?_
 refine aw_cond (b := (decide ((12 : Int) < (w.length : Int)))) (by kernel_rfl) (fun hb => ?_) (fun hb => ?_)
 ·have h := h.1 hb
  refine srn 1 ⟨24, [sI 4 (1 : Int)], []⟩ (by kernel_rfl) rfl ?_
  refine aw_ret ?_
  refine thenQ_r ?_
  exact retQ_r (ob := Ts 1 True) _ (by kernel_rfl) (tsI 1 trivial) h
 ·have h := h.2 hb
  refine aw_skip ?_
  refine thenQ_n ?_
  refine aw_seq ?_
  refine srn 3 ⟨24, [sI 0 k, s1 10 (.pS w), e46_0 w, sI 12 (0 : Int)], []⟩ (by kernel_rfl) rfl ?_
  refine withJoin (σ := Unit) (fun s => (⟨24, [], []⟩ : St)) (fun s => VC46_k1 K) (fun s h => ?_) (fun rest1 => ?_)
  ·have h : VC46_k1 K := h
   unfold VC46_k1 at h
   refine thenQ_n ?_
   refine srn 1 ⟨24, [sI 4 (0 : Int)], []⟩ (by kernel_rfl) rfl ?_
   refine aw_ret ?_
   exact retQ_r (ob := Ts 1 True) _ (by kernel_rfl) (tsI 1 trivial) h
  ·refine aw_block ?_
   refine aw_loop (σ := Int) (fun s => (⟨24, [sI 0 k, s1 10 (.pS w), e46_0 w, sI 12 s], []⟩ : St)) (fun s X => VC46_l1 k w K s X) (s0 := (0 : Int)) (fun v12 X1 h => ?_) h
   have h : VC46_l1 k w K v12 X1 := h
   unfold VC46_l1 at h
   refine srn 1 ⟨24, [sI 0 k, s1 10 (.pS w), e46_0 w, sI 12 v12, sB 13 (decide (v12 < (w.length : Int)))], []⟩ (by kernel_rfl) rfl ?_
   refine aw_seq ?_
   refine aw_cond (b := (decide (v12 < (w.length : Int)))) (by kernel_rfl) (fun hb => ?_) (fun hb => ?_)
   ·have h := h.1 hb
    refine aw_skip ?_
    refine thenQ_n ?_
    refine aw_seq ?_
    refine aw_block ?_
    refine sr ?_
    obtain ⟨o1, h⟩ := h
    refine rq 3 (ob := (inIdx v12 w.length ∧ Ts 2 True)) (st' := (⟨24, [sI 0 k, sI 6 (w.getD (v12).toNat (0 : Int)), s1 10 (.pS w), e46_0 w, sI 12 v12], []⟩ : St)) (by kernel_rfl) (⟨o1, tsI 2 trivial⟩) ?_
    refine nsr ?_
    refine rq 7 (ob := (Ts 3 (Ti 3 ((decide ((w.getD (v12).toNat (0 : Int)) < (0 : Int))) = false → True) (Ts 1 True)))) (st' := (⟨24, [sI 0 k, s1 10 (.pS w), e46_0 w, sI 12 v12, sB 22 ((decide ((w.getD (v12).toNat (0 : Int)) < (0 : Int))) || (decide (k ≤ (w.getD (v12).toNat (0 : Int)))))], []⟩ : St)) (by kernel_rfl) (tsI 3 (tiI 3 (fun _ => trivial) (tsI 1 trivial))) ?_
    refine nn ?_
    refine aw_cond (b := ((decide ((w.getD (v12).toNat (0 : Int)) < (0 : Int))) || (decide (k ≤ (w.getD (v12).toNat (0 : Int)))))) (by kernel_rfl) (fun hb => ?_) (fun hb => ?_)
    ·have h := h.1 hb
     refine srn 1 ⟨24, [sI 4 (2 : Int)], []⟩ (by kernel_rfl) rfl ?_
     refine aw_ret ?_
     refine blockQ_r ?_
     refine thenQ_r ?_
     refine thenQ_r ?_
     refine blockQ_r ?_
     refine thenQ_r ?_
     exact retQ_r (ob := Ts 1 True) _ (by kernel_rfl) (tsI 1 trivial) h
    ·have h := h.2 hb
     refine aw_skip ?_
     refine blockQ_n ?_
     refine thenQ_n ?_
     refine aw_region ?_
     obtain ⟨o1, h⟩ := h
     refine rq 2 (ob := (InR (v12 + (1 : Int)) ∧ Ts 1 True)) (st' := (⟨24, [sI 0 k, s1 10 (.pS w), e46_0 w, sI 12 (v12 + (1 : Int))], []⟩ : St)) (by kernel_rfl) (⟨o1, tsI 1 trivial⟩) ?_
     refine awl_nil ?_
     exact thenQ_n ⟨(v12 + (1 : Int)), rfl, h⟩
   ·have h := h.2 hb
    refine cpr (st' := (⟨24, [], []⟩ : St)) (by kernel_rfl) ?_
    refine aw_exit ?_
    refine thenQ_x ?_
    refine thenQ_x ?_
    refine blockQ_hit ?_
    exact rest1 () h
abbrev e21_0 (g : TG) : Nat × Path × Con := hB 2 [.pI g.1, .pI g.2.1, .pI g.2.2.1, .p (.sl tR) g.2.2.2]
-- coppicer/coppicerkeep.grown
def VC21 (g : TG) (w : LI) (K : Bool → Prop) : Prop :=
  VC18 g (fun (ret6v : Int) => gcall (α := Int) (decide (ret6v = (0 : Int))) (VC46 g.1 w) (0 : Int) (fun (ret12v : Int) => K ((decide (ret6v = (0 : Int))) && (decide (ret12v = (0 : Int))))))
set_option maxHeartbeats 4000000 in
theorem link21 (g : TG) (w : LI) (K : Bool → Prop) (h : VC21 g w K) : ACalls Try.prog 21 [toV1 tG g, toV1 (.sl tI) w] (fun res => ∃ y, res = (fun y => [toV1 .bool y]) y ∧ K y) := by
 refine acalls_of_aw [.bool] [.t 4] Try.func21 rfl rfl rfl ?_
 unfold VC21 at h
 refine sr ?_
 refine rqT 2 ⟨15, [s1 1 (.pS w), sp 2 2], [e21_0 g]⟩ (by kernel_rfl) ?_
 refine nsr ?_
 refine rqT 1 ⟨15, [s1 1 (.pS w), sp 2 2, sA 5 [.pI g.1, .pI g.2.1, .pI g.2.2.1, .p (.sl tR) g.2.2.2]], [e21_0 g]⟩ (by kernel_rfl) ?_
 refine lcq (d := 6) [.d tG] (fun ret6v => (⟨15, [s1 1 (.pS w), sp 2 2, sI 6 ret6v], [e21_0 g]⟩ : St)) (by kernel_rfl) Try.call18 (fun _ => by kernel_rfl) (link18 g _ h) (fun ret6v h => ?_)
 refine rq 5 (ob := (Ts 2 (Ti 3 ((decide (ret6v = (0 : Int))) = true → True) True))) (st' := (⟨15, [sB 8 (decide (ret6v = (0 : Int))), (10, [(8, true)], .v (.c (.pI g.1))), (11, [(8, true)], .v (.c (.pS w)))], []⟩ : St)) (by kernel_rfl) (tsI 2 (tiI 3 (fun _ => trivial) trivial)) ?_
 refine awl_callk (p := [(8, true)]) (l := [toV1 tI g.1, toV1 (.sl tI) w]) (cl := []) false [.d tI, .d (.sl tI)] [8, 12] [] (fun (ret12v : Int) => K ((decide (ret6v = (0 : Int))) && (decide (ret12v = (0 : Int))))) (fun ret12v => [toV1 tI ret12v]) (fun ret12v => (⟨15, [sB 8 (decide (ret6v = (0 : Int))), (12, [(8, true)], .v (.c (.pI ret12v)))], []⟩ : St)) (by kernel_rfl) rfl (by kernel_rfl) rfl (by kernel_rfl) Try.call46 (by kernel_rfl) (fun ret12v => by kernel_rfl) (fun e => by cases e) (fun hg => link46 g.1 w _ (by have := gcall_T h (show (decide (ret6v = (0 : Int))) = true from hg); exact this)) (fun hg => ⟨(0 : Int), by have := gcall_F h (show (decide (ret6v = (0 : Int))) = false from hg); exact this⟩) (fun ret12v h => ?_)
 refine rq 3 (ob := (((decide (ret6v = (0 : Int))) = true → True) ∧ Ts 2 True)) (st' := (⟨15, [sB 4 ((decide (ret6v = (0 : Int))) && (decide (ret12v = (0 : Int))))], []⟩ : St)) (by kernel_rfl) (⟨(fun _ => trivial), tsI 2 trivial⟩) ?_
 refine nn ?_
 refine aw_ret ?_
 exact retQ_r (ob := Ts 1 True) _ (by kernel_rfl) (tsI 1 trivial) h
abbrev e32_0 (a : (List LN)) : Nat × Path × AV := s1 0 (.p (.sl (.sl t3)) a)
abbrev e32_1 (b : (List LN)) : Nat × Path × AV := s1 1 (.p (.sl (.sl t3)) b)
-- coppicer/coppicerref.ItemsSame
def VC32_k1 (K : Bool → Prop) : Prop :=
  K true
def VC32_k2 (i : Int) (X1 : Int → Prop) : Prop :=
  (InR (i + (1 : Int)) ∧ X1 (i + (1 : Int)))
def VC32_l2 (a : (List LN)) (b : (List LN)) (K : Bool → Prop) (i : Int) (X1 : Int → Prop) (k : Int) (X2 : Int → Prop) : Prop :=
  (inIdx i a.length ∧ (((decide (k < ((a.getD (i).toNat ([] : LN)).length : Int))) = true → (inIdx i a.length ∧ inIdx k (a.getD (i).toNat ([] : LN)).length ∧ inIdx i b.length ∧ inIdx k (b.getD (i).toNat ([] : LN)).length ∧ (((!(decide (((a.getD (i).toNat ([] : LN)).getD (k).toNat z3) = ((b.getD (i).toNat ([] : LN)).getD (k).toNat z3)))) = true → K false) ∧ ((!(decide (((a.getD (i).toNat ([] : LN)).getD (k).toNat z3) = ((b.getD (i).toNat ([] : LN)).getD (k).toNat z3)))) = false → (InR (k + (1 : Int)) ∧ X2 (k + (1 : Int))))))) ∧ ((decide (k < ((a.getD (i).toNat ([] : LN)).length : Int))) = false → VC32_k2 i X1)))
def VC32_l1 (a : (List LN)) (b : (List LN)) (K : Bool → Prop) (i : Int) (X1 : Int → Prop) : Prop :=
  (((decide (i < (a.length : Int))) = true → (inIdx i a.length ∧ inIdx i b.length ∧ (((!decide (((a.getD (i).toNat ([] : LN)).length : Int) = ((b.getD (i).toNat ([] : LN)).length : Int))) = true → K false) ∧ ((!decide (((a.getD (i).toNat ([] : LN)).length : Int) = ((b.getD (i).toNat ([] : LN)).length : Int))) = false → Loop (σ := Int) (fun s X => VC32_l2 a b K i X1 s X) (0 : Int))))) ∧ ((decide (i < (a.length : Int))) = false → VC32_k1 K))
def VC32 (a : (List LN)) (b : (List LN)) (K : Bool → Prop) : Prop :=
  (((!decide ((a.length : Int) = (b.length : Int))) = true → K false) ∧ ((!decide ((a.length : Int) = (b.length : Int))) = false → Loop (σ := Int) (fun s X => VC32_l1 a b K s X) (0 : Int)))
set_option maxHeartbeats 4000000 in
theorem link32 (a : (List LN)) (b : (List LN)) (K : Bool → Prop) (h : VC32 a b K) : ACalls Try.prog 32 [toV1 (.sl (.sl t3)) a, toV1 (.sl (.sl t3)) b] (fun res => ∃ y, res = (fun y => [toV1 .bool y]) y ∧ K y) := by
 refine acalls_of_aw [.bool] [.t 4] Try.func32 rfl rfl rfl ?_
 unfold VC32 at h
 refine srn 1 ⟨53, [e32_0 a, e32_1 b], []⟩ (by kernel_rfl) rfl ?_
 refine aw_seq ?_
 refine srn 5 ⟨53, [e32_0 a, e32_1 b, sB 11 (!decide ((a.length : Int) = (b.length : Int)))], []⟩ (by kernel_rfl) rfl ?_
 refine aw_cond (b := (!decide ((a.length : Int) = (b.length : Int)))) (by kernel_rfl) (fun hb => ?_) (fun hb => ?_)
 ·have h := h.1 hb
  refine srn 1 ⟨53, [sB 4 false], []⟩ (by kernel_rfl) rfl ?_
  refine aw_ret ?_
  refine thenQ_r ?_
  exact retQ_r (ob := Ts 1 True) _ (by kernel_rfl) (tsI 1 trivial) h
 ·have h := h.2 hb
  refine aw_skip ?_
  refine thenQ_n ?_
  refine aw_seq ?_
  refine srn 1 ⟨53, [e32_0 a, e32_1 b, sI 5 (0 : Int)], []⟩ (by kernel_rfl) rfl ?_
  refine withJoin (σ := Unit) (fun s => (⟨53, [], []⟩ : St)) (fun s => VC32_k1 K) (fun s h => ?_) (fun rest1 => ?_)
  ·have h : VC32_k1 K := h
   unfold VC32_k1 at h
   refine thenQ_n ?_
   refine srn 1 ⟨53, [sB 4 true], []⟩ (by kernel_rfl) rfl ?_
   refine aw_ret ?_
   exact retQ_r (ob := Ts 1 True) _ (by kernel_rfl) (tsI 1 trivial) h
  ·refine aw_block ?_
   refine aw_loop (σ := Int) (fun s => (⟨53, [e32_0 a, e32_1 b, sI 5 s], []⟩ : St)) (fun s X => VC32_l1 a b K s X) (s0 := (0 : Int)) (fun i X1 h => ?_) h
   have h : VC32_l1 a b K i X1 := h
   unfold VC32_l1 at h
   refine aw_seq ?_
   refine srn 4 ⟨53, [e32_0 a, e32_1 b, sI 5 i, sB 15 (decide (i < (a.length : Int)))], []⟩ (by kernel_rfl) rfl ?_
   refine aw_cond (b := (decide (i < (a.length : Int)))) (by kernel_rfl) (fun hb => ?_) (fun hb => ?_)
   ·have h := h.1 hb
    refine aw_skip ?_
    refine thenQ_n ?_
    refine aw_seq ?_
    refine aw_block ?_
    refine aw_seq ?_
    refine aw_seq ?_
    refine awd_begin [] (by kernel_rfl) ?_
    obtain ⟨o1, o2, h⟩ := h
    refine drq (by kernel_rfl) [0, 1, 2, 3, 4, 5, 6, 7, 8, 9, 10] (ob := (Ts 2 (inIdx i a.length ∧ Ts 4 (inIdx i b.length ∧ Ts 3 True)))) (done' := [10, 9, 8, 7, 6, 5, 4, 3, 2, 1, 0]) (st' := (⟨53, [e32_0 a, e32_1 b, sI 5 i, sB 28 (!decide (((a.getD (i).toNat ([] : LN)).length : Int) = ((b.getD (i).toNat ([] : LN)).length : Int)))], []⟩ : St)) (by kernel_rfl) (tsI 2 (⟨o1, tsI 4 ⟨o2, tsI 3 trivial⟩⟩)) ?_
    refine awd_done (by kernel_rfl) ?_
    refine thenQ_n ?_
    refine aw_cond (b := (!decide (((a.getD (i).toNat ([] : LN)).length : Int) = ((b.getD (i).toNat ([] : LN)).length : Int)))) (by kernel_rfl) (fun hb => ?_) (fun hb => ?_)
    ·have h := h.1 hb
     refine srn 1 ⟨53, [sB 4 false], []⟩ (by kernel_rfl) rfl ?_
     refine aw_ret ?_
     refine thenQ_r ?_
     refine blockQ_r ?_
     refine thenQ_r ?_
     refine thenQ_r ?_
     refine blockQ_r ?_
     refine thenQ_r ?_
     exact retQ_r (ob := Ts 1 True) _ (by kernel_rfl) (tsI 1 trivial) h
    ·have h := h.2 hb
     refine aw_skip ?_
     refine thenQ_n ?_
     refine srn 1 ⟨53, [e32_0 a, e32_1 b, sI 5 i, sI 6 (0 : Int)], []⟩ (by kernel_rfl) rfl ?_
     refine withJoin (σ := Unit) (fun s => (⟨53, [e32_0 a, e32_1 b, sI 5 i], []⟩ : St)) (fun s => VC32_k2 i X1) (fun s h => ?_) (fun rest2 => ?_)
     ·have h : VC32_k2 i X1 := h
      unfold VC32_k2 at h
      refine blockQ_n ?_
      refine thenQ_n ?_
      refine aw_region ?_
      obtain ⟨o1, h⟩ := h
      refine rq 3 (ob := (Ts 1 (InR (i + (1 : Int)) ∧ Ts 1 True))) (st' := (⟨53, [e32_0 a, e32_1 b, sI 5 (i + (1 : Int))], []⟩ : St)) (by kernel_rfl) (tsI 1 ⟨o1, tsI 1 trivial⟩) ?_
      refine awl_nil ?_
      exact thenQ_n ⟨(i + (1 : Int)), rfl, h⟩
     ·refine aw_block ?_
      refine aw_loop (σ := Int) (fun s => (⟨53, [e32_0 a, e32_1 b, sI 5 i, sI 6 s], []⟩ : St)) (fun s X => VC32_l2 a b K i X1 s X) (s0 := (0 : Int)) (fun k X2 h => ?_) h
      have h : VC32_l2 a b K i X1 k X2 := h
      unfold VC32_l2 at h
      refine aw_seq ?_
      refine sr ?_
      obtain ⟨o1, h⟩ := h
      refine rq 7 (ob := (Ts 3 (inIdx i a.length ∧ Ts 3 True))) (st' := (⟨53, [e32_0 a, e32_1 b, sI 5 i, sI 6 k, sB 35 (decide (k < ((a.getD (i).toNat ([] : LN)).length : Int)))], []⟩ : St)) (by kernel_rfl) (tsI 3 ⟨o1, tsI 3 trivial⟩) ?_
      refine nn ?_
      refine aw_cond (b := (decide (k < ((a.getD (i).toNat ([] : LN)).length : Int)))) (by kernel_rfl) (fun hb => ?_) (fun hb => ?_)
      ·have h := h.1 hb
       refine aw_skip ?_
       refine thenQ_n ?_
       refine aw_seq ?_
       refine aw_block ?_
       refine aw_seq ?_
       refine awd_begin [] (by kernel_rfl) ?_
       obtain ⟨o1, o2, o3, o4, h⟩ := h
       refine drq (by kernel_rfl) [0, 1, 2, 3, 4, 5, 6, 7, 8, 9, 10, 11, 12, 13, 14] (ob := (Ts 2 (inIdx i a.length ∧ Ts 2 (inIdx k (a.getD (i).toNat ([] : LN)).length ∧ Ts 3 (inIdx i b.length ∧ Ts 2 (inIdx k (b.getD (i).toNat ([] : LN)).length ∧ Ts 2 True)))))) (done' := [14, 13, 12, 11, 10, 9, 8, 7, 6, 5, 4, 3, 2, 1, 0]) (st' := (⟨53, [e32_0 a, e32_1 b, sI 5 i, sI 6 k, sB 52 (!(decide (((a.getD (i).toNat ([] : LN)).getD (k).toNat z3) = ((b.getD (i).toNat ([] : LN)).getD (k).toNat z3))))], []⟩ : St)) (by kernel_rfl) (tsI 2 (⟨o1, tsI 2 (⟨o2, tsI 3 (⟨o3, tsI 2 ⟨o4, tsI 2 trivial⟩⟩)⟩)⟩)) ?_
       refine awd_done (by kernel_rfl) ?_
       refine thenQ_n ?_
       refine aw_cond (b := (!(decide (((a.getD (i).toNat ([] : LN)).getD (k).toNat z3) = ((b.getD (i).toNat ([] : LN)).getD (k).toNat z3))))) (by kernel_rfl) (fun hb => ?_) (fun hb => ?_)
       ·have h := h.1 hb
        refine srn 1 ⟨53, [sB 4 false], []⟩ (by kernel_rfl) rfl ?_
        refine aw_ret ?_
        refine blockQ_r ?_
        refine thenQ_r ?_
        refine thenQ_r ?_
        refine blockQ_r ?_
        refine blockQ_r ?_
        refine thenQ_r ?_
        refine thenQ_r ?_
        refine blockQ_r ?_
        refine thenQ_r ?_
        exact retQ_r (ob := Ts 1 True) _ (by kernel_rfl) (tsI 1 trivial) h
       ·have h := h.2 hb
        refine aw_skip ?_
        refine blockQ_n ?_
        refine thenQ_n ?_
        refine aw_region ?_
        obtain ⟨o1, h⟩ := h
        refine rq 3 (ob := (Ts 1 (InR (k + (1 : Int)) ∧ Ts 1 True))) (st' := (⟨53, [e32_0 a, e32_1 b, sI 5 i, sI 6 (k + (1 : Int))], []⟩ : St)) (by kernel_rfl) (tsI 1 ⟨o1, tsI 1 trivial⟩) ?_
        refine awl_nil ?_
        exact thenQ_n ⟨(k + (1 : Int)), rfl, h⟩
      ·have h := h.2 hb
       refine cpr (st' := (⟨53, [e32_0 a, e32_1 b, sI 5 i], []⟩ : St)) (by kernel_rfl) ?_
       refine aw_exit ?_
       refine thenQ_x ?_
       refine thenQ_x ?_
       refine blockQ_hit ?_
       exact rest2 () h
   ·have h := h.2 hb
    refine cpr (st' := (⟨53, [], []⟩ : St)) (by kernel_rfl) ?_
    refine aw_exit ?_
    refine thenQ_x ?_
    refine thenQ_x ?_
    refine blockQ_hit ?_
    exact rest1 () h
abbrev e9_0 (g : TG) : Nat × Path × Con := hB 3 [.pI g.1, .pI g.2.1, .pI g.2.2.1, .p (.sl tR) g.2.2.2]
abbrev e9_1 (ret15v : (List LN) × Int) (ret35v : (List LN) × Int) (w : LI) (k : Int) : Nat × Path × AV := sB 59 ((((decide (ret15v.2 = (0 : Int))) && (decide (ret35v.2 = (0 : Int)))) && (decide ((ret15v.1.length : Int) = ((w.length : Int) + (1 : Int))))) && (decide ((ret35v.1.length : Int) = ((k % ((w.length : Int) + (1 : Int))) + (1 : Int)))))
abbrev e9_2 (ret15v : (List LN) × Int) : Nat × Path × AV := s1 7 (.p (.sl (.sl t3)) ret15v.1)
abbrev e9_3 (k : Int) (w : LI) : Nat × Path × AV := sI 9 (k % ((w.length : Int) + (1 : Int)))
abbrev e9_4 (w : LI) : Nat × Path × AV := s1 1 (.pS w)
-- coppicer/coppicerkeep.ItemsFront
def VC9 (g : TG) (w : LI) (k : Int) (K : Bool → Prop) : Prop :=
  VC31 g w (fun (ret15v : (List LN) × Int) => VC21 g w (fun (ret20v : Bool) => (((!ret20v) = true → K (!decide (ret15v.2 = (0 : Int)))) ∧ ((!ret20v) = false → (InR ((w.length : Int) + (1 : Int)) ∧ (0 ≤ k ∧ 0 < ((w.length : Int) + (1 : Int))) ∧ ((0 ≤ (k % ((w.length : Int) + (1 : Int))) ∧ (k % ((w.length : Int) + (1 : Int))) ≤ (w.length : Int)) ∧ VC31 g (w.take ((k % ((w.length : Int) + (1 : Int)))).toNat) (fun (ret35v : (List LN) × Int) => ((((decide (ret15v.2 = (0 : Int))) && (decide (ret35v.2 = (0 : Int)))) = true → InR ((w.length : Int) + (1 : Int))) ∧ ((((decide (ret15v.2 = (0 : Int))) && (decide (ret35v.2 = (0 : Int)))) && (decide ((ret15v.1.length : Int) = ((w.length : Int) + (1 : Int))))) = true → InR ((k % ((w.length : Int) + (1 : Int))) + (1 : Int))) ∧ (((((decide (ret15v.2 = (0 : Int))) && (decide (ret35v.2 = (0 : Int)))) && (decide ((ret15v.1.length : Int) = ((w.length : Int) + (1 : Int))))) && (decide ((ret35v.1.length : Int) = ((k % ((w.length : Int) + (1 : Int))) + (1 : Int))))) = true → InR ((k % ((w.length : Int) + (1 : Int))) + (1 : Int))) ∧ (((((decide (ret15v.2 = (0 : Int))) && (decide (ret35v.2 = (0 : Int)))) && (decide ((ret15v.1.length : Int) = ((w.length : Int) + (1 : Int))))) && (decide ((ret35v.1.length : Int) = ((k % ((w.length : Int) + (1 : Int))) + (1 : Int))))) = true → (0 ≤ ((k % ((w.length : Int) + (1 : Int))) + (1 : Int)) ∧ ((k % ((w.length : Int) + (1 : Int))) + (1 : Int)) ≤ (ret15v.1.length : Int))) ∧ gcall (α := Bool) ((((decide (ret15v.2 = (0 : Int))) && (decide (ret35v.2 = (0 : Int)))) && (decide ((ret15v.1.length : Int) = ((w.length : Int) + (1 : Int))))) && (decide ((ret35v.1.length : Int) = ((k % ((w.length : Int) + (1 : Int))) + (1 : Int))))) (VC32 (ret15v.1.take (((k % ((w.length : Int) + (1 : Int))) + (1 : Int))).toNat) ret35v.1) false (fun (ret65v : Bool) => K (((((decide (ret15v.2 = (0 : Int))) && (decide (ret35v.2 = (0 : Int)))) && (decide ((ret15v.1.length : Int) = ((w.length : Int) + (1 : Int))))) && (decide ((ret35v.1.length : Int) = ((k % ((w.length : Int) + (1 : Int))) + (1 : Int))))) && ret65v))))))))))
set_option maxHeartbeats 4000000 in
theorem link9 (g : TG) (w : LI) (k : Int) (K : Bool → Prop) (h : VC9 g w k K) : ACalls Try.prog 9 [toV1 tG g, toV1 (.sl tI) w, toV1 (.int .u8) k] (fun res => ∃ y, res = (fun y => [toV1 .bool y]) y ∧ K y) := by
 refine acalls_of_aw [.bool] [.t 6] Try.func9 rfl rfl rfl ?_
 unfold VC9 at h
 refine sr ?_
 refine rqT 2 ⟨67, [e9_4 w, s1 2 (.pY k), sp 3 3], [e9_0 g]⟩ (by kernel_rfl) ?_
 refine nsr ?_
 refine rqT 2 ⟨67, [e9_4 w, s1 2 (.pY k), sp 3 3, sA 13 [.pI g.1, .pI g.2.1, .pI g.2.2.1, .p (.sl tR) g.2.2.2], s1 14 (.pS w)], [e9_0 g]⟩ (by kernel_rfl) ?_
 refine lcq (d := 15) [.d tG, .d (.sl tI)] (fun ret15v => (⟨67, [e9_4 w, s1 2 (.pY k), sp 3 3, (15, [], .tup [.c (.p (.sl (.sl t3)) ret15v.1), .c (.pI ret15v.2)])], [e9_0 g]⟩ : St)) (by kernel_rfl) Try.call31 (fun _ => by kernel_rfl) (link31 g w _ h) (fun ret15v h => ?_)
 refine rqT 5 ⟨67, [e9_4 w, s1 2 (.pY k), sp 3 3, e9_2 ret15v, sI 8 ret15v.2], [e9_0 g]⟩ (by kernel_rfl) ?_
 refine nn ?_
 refine aw_seq ?_
 refine sr ?_
 refine rqT 2 ⟨67, [e9_4 w, s1 2 (.pY k), sp 3 3, e9_2 ret15v, sI 8 ret15v.2, sA 18 [.pI g.1, .pI g.2.1, .pI g.2.2.1, .p (.sl tR) g.2.2.2], s1 19 (.pS w)], [e9_0 g]⟩ (by kernel_rfl) ?_
 refine lcq (d := 20) [.d tG, .d (.sl tI)] (fun ret20v => (⟨67, [e9_4 w, s1 2 (.pY k), sp 3 3, e9_2 ret15v, sI 8 ret15v.2, sB 20 ret20v], [e9_0 g]⟩ : St)) (by kernel_rfl) Try.call21 (fun _ => by kernel_rfl) (link21 g w _ h) (fun ret20v h => ?_)
 refine rqT 1 ⟨67, [e9_4 w, s1 2 (.pY k), sp 3 3, e9_2 ret15v, sI 8 ret15v.2, sB 21 (!ret20v)], [e9_0 g]⟩ (by kernel_rfl) ?_
 refine nn ?_
 refine aw_cond (b := (!ret20v)) (by kernel_rfl) (fun hb => ?_) (fun hb => ?_)
 ·have h := h.1 hb
  refine srn 3 ⟨67, [sB 6 (!decide (ret15v.2 = (0 : Int)))], []⟩ (by kernel_rfl) rfl ?_
  refine aw_ret ?_
  refine thenQ_r ?_
  exact retQ_r (ob := Ts 1 True) _ (by kernel_rfl) (tsI 1 trivial) h
 ·have h := h.2 hb
  refine aw_skip ?_
  refine thenQ_n ?_
  refine sr ?_
  obtain ⟨o1, o2, h⟩ := h
  refine rq 7 (ob := (Ts 4 (InR ((w.length : Int) + (1 : Int)) ∧ (0 ≤ k ∧ 0 < ((w.length : Int) + (1 : Int))) ∧ Ts 1 True))) (st' := (⟨67, [e9_4 w, sp 3 3, e9_2 ret15v, sI 8 ret15v.2, e9_3 k w], [e9_0 g]⟩ : St)) (by kernel_rfl) (tsI 4 (⟨o1, ⟨o2, tsI 1 trivial⟩⟩)) ?_
  refine nn ?_
  refine aw_seq ?_
  refine awd_begin [] (by kernel_rfl) ?_
  obtain ⟨o1, h⟩ := h
  refine drq (by kernel_rfl) [0, 1, 2, 3] (ob := (Ts 3 ((0 ≤ (k % ((w.length : Int) + (1 : Int))) ∧ (k % ((w.length : Int) + (1 : Int))) ≤ (w.length : Int)) ∧ True))) (done' := [3, 2, 1, 0]) (st' := (⟨67, [e9_4 w, e9_2 ret15v, sI 8 ret15v.2, e9_3 k w, sA 31 [.pI g.1, .pI g.2.1, .pI g.2.2.1, .p (.sl tR) g.2.2.2], s1 34 (.pS (w.take ((k % ((w.length : Int) + (1 : Int)))).toNat))], []⟩ : St)) (by kernel_rfl) (tsI 3 ⟨o1, trivial⟩) ?_
  refine awd_one (i := 4) (by kernel_rfl) ?_
  refine dcq (d := 35) [.d tG, .d (.sl tI)] (fun ret35v => (⟨67, [e9_4 w, e9_2 ret15v, sI 8 ret15v.2, e9_3 k w, (35, [], .tup [.c (.p (.sl (.sl t3)) ret35v.1), .c (.pI ret35v.2)])], []⟩ : St)) rfl (by kernel_rfl) Try.call31 (fun _ => by kernel_rfl) (link31 g (w.take ((k % ((w.length : Int) + (1 : Int)))).toNat) _ h) (fun ret35v h => ?_)
  refine drq (by kernel_rfl) [5, 6, 7, 8, 9] (ob := (Ts 5 True)) (done' := [9, 8, 7, 6, 5, 4, 3, 2, 1, 0]) (st' := (⟨67, [e9_4 w, e9_2 ret15v, sI 8 ret15v.2, e9_3 k w, s1 10 (.p (.sl (.sl t3)) ret35v.1), sI 11 ret35v.2], []⟩ : St)) (by kernel_rfl) (tsI 5 trivial) ?_
  refine awd_done (by kernel_rfl) ?_
  refine thenQ_n ?_
  refine sr ?_
  obtain ⟨o1, o2, o3, o4, h⟩ := h
  refine rq 27 (ob := (Ts 3 (Ti 2 ((decide (ret15v.2 = (0 : Int))) = true → True) (Ts 2 (Ti 4 (((decide (ret15v.2 = (0 : Int))) && (decide (ret35v.2 = (0 : Int)))) = true → True) ((((decide (ret15v.2 = (0 : Int))) && (decide (ret35v.2 = (0 : Int)))) = true → InR ((w.length : Int) + (1 : Int))) ∧ (((decide (ret15v.2 = (0 : Int))) && (decide (ret35v.2 = (0 : Int)))) = true → True) ∧ Ts 2 (Ti 3 ((((decide (ret15v.2 = (0 : Int))) && (decide (ret35v.2 = (0 : Int)))) && (decide ((ret15v.1.length : Int) = ((w.length : Int) + (1 : Int))))) = true → True) (((((decide (ret15v.2 = (0 : Int))) && (decide (ret35v.2 = (0 : Int)))) && (decide ((ret15v.1.length : Int) = ((w.length : Int) + (1 : Int))))) = true → InR ((k % ((w.length : Int) + (1 : Int))) + (1 : Int))) ∧ ((((decide (ret15v.2 = (0 : Int))) && (decide (ret35v.2 = (0 : Int)))) && (decide ((ret15v.1.length : Int) = ((w.length : Int) + (1 : Int))))) = true → True) ∧ Ts 2 (Ti 2 (((((decide (ret15v.2 = (0 : Int))) && (decide (ret35v.2 = (0 : Int)))) && (decide ((ret15v.1.length : Int) = ((w.length : Int) + (1 : Int))))) && (decide ((ret35v.1.length : Int) = ((k % ((w.length : Int) + (1 : Int))) + (1 : Int))))) = true → True) ((((((decide (ret15v.2 = (0 : Int))) && (decide (ret35v.2 = (0 : Int)))) && (decide ((ret15v.1.length : Int) = ((w.length : Int) + (1 : Int))))) && (decide ((ret35v.1.length : Int) = ((k % ((w.length : Int) + (1 : Int))) + (1 : Int))))) = true → InR ((k % ((w.length : Int) + (1 : Int))) + (1 : Int))) ∧ (((((decide (ret15v.2 = (0 : Int))) && (decide (ret35v.2 = (0 : Int)))) && (decide ((ret15v.1.length : Int) = ((w.length : Int) + (1 : Int))))) && (decide ((ret35v.1.length : Int) = ((k % ((w.length : Int) + (1 : Int))) + (1 : Int))))) = true → (0 ≤ ((k % ((w.length : Int) + (1 : Int))) + (1 : Int)) ∧ ((k % ((w.length : Int) + (1 : Int))) + (1 : Int)) ≤ (ret15v.1.length : Int))) ∧ (((((decide (ret15v.2 = (0 : Int))) && (decide (ret35v.2 = (0 : Int)))) && (decide ((ret15v.1.length : Int) = ((w.length : Int) + (1 : Int))))) && (decide ((ret35v.1.length : Int) = ((k % ((w.length : Int) + (1 : Int))) + (1 : Int))))) = true → True) ∧ True)))))))))) (st' := (⟨67, [e9_1 ret15v ret35v w k, (63, [(59, true)], .v (.c (.p (.sl (.sl t3)) (ret15v.1.take (((k % ((w.length : Int) + (1 : Int))) + (1 : Int))).toNat)))), (64, [(59, true)], .v (.c (.p (.sl (.sl t3)) ret35v.1)))], []⟩ : St)) (by kernel_rfl) (tsI 3 (tiI 2 (fun _ => trivial) (tsI 2 (tiI 4 (fun _ => trivial) (⟨o1, ⟨(fun _ => trivial), tsI 2 (tiI 3 (fun _ => trivial) (⟨o2, ⟨(fun _ => trivial), tsI 2 (tiI 2 (fun _ => trivial) (⟨o3, ⟨o4, ⟨(fun _ => trivial), trivial⟩⟩⟩))⟩⟩))⟩⟩))))) ?_
  refine awl_callk (p := [(59, true)]) (l := [toV1 (.sl (.sl t3)) (ret15v.1.take (((k % ((w.length : Int) + (1 : Int))) + (1 : Int))).toNat), toV1 (.sl (.sl t3)) ret35v.1]) (cl := []) false [.d (.sl (.sl t3)), .d (.sl (.sl t3))] [59, 65] [] (fun (ret65v : Bool) => K (((((decide (ret15v.2 = (0 : Int))) && (decide (ret35v.2 = (0 : Int)))) && (decide ((ret15v.1.length : Int) = ((w.length : Int) + (1 : Int))))) && (decide ((ret35v.1.length : Int) = ((k % ((w.length : Int) + (1 : Int))) + (1 : Int))))) && ret65v)) (fun ret65v => [toV1 .bool ret65v]) (fun ret65v => (⟨67, [e9_1 ret15v ret35v w k, (65, [(59, true)], .v (.c (.pB ret65v)))], []⟩ : St)) (by kernel_rfl) rfl (by kernel_rfl) rfl (by kernel_rfl) Try.call32 (by kernel_rfl) (fun ret65v => by kernel_rfl) (fun e => by cases e) (fun hg => link32 (ret15v.1.take (((k % ((w.length : Int) + (1 : Int))) + (1 : Int))).toNat) ret35v.1 _ (by have := gcall_T h (show ((((decide (ret15v.2 = (0 : Int))) && (decide (ret35v.2 = (0 : Int)))) && (decide ((ret15v.1.length : Int) = ((w.length : Int) + (1 : Int))))) && (decide ((ret35v.1.length : Int) = ((k % ((w.length : Int) + (1 : Int))) + (1 : Int))))) = true from hg); exact this)) (fun hg => ⟨false, by have := gcall_F h (show ((((decide (ret15v.2 = (0 : Int))) && (decide (ret35v.2 = (0 : Int)))) && (decide ((ret15v.1.length : Int) = ((w.length : Int) + (1 : Int))))) && (decide ((ret35v.1.length : Int) = ((k % ((w.length : Int) + (1 : Int))) + (1 : Int))))) = false from hg); exact this⟩) (fun ret65v h => ?_)
  refine rqT 2 ⟨67, [sB 6 (((((decide (ret15v.2 = (0 : Int))) && (decide (ret35v.2 = (0 : Int)))) && (decide ((ret15v.1.length : Int) = ((w.length : Int) + (1 : Int))))) && (decide ((ret35v.1.length : Int) = ((k % ((w.length : Int) + (1 : Int))) + (1 : Int))))) && ret65v)], []⟩ (by kernel_rfl) ?_
  refine nn ?_
  refine aw_ret ?_
  exact retQ_r (ob := Ts 1 True) _ (by kernel_rfl) (tsI 1 trivial) h
end Dec
