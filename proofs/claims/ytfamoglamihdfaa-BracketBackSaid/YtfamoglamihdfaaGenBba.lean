/-
  Printed by dec2.py: of each function its plain demand, and that the demand gives the contract.
-/
import Derived.Test.YtfamoglamihdfaaGenBma
set_option linter.unusedVariables false
set_option linter.unusedSimpArgs false
set_option maxRecDepth 100000
namespace Dec
open Go Go.RowKit Go.Proofs

-- coppicer/bracket.height
def VC43 (openv : Bool) (K : Int → Prop) : Prop :=
  ((openv = true → K (1 : Int)) ∧ (openv = false → K (-1 : Int)))

set_option maxHeartbeats 4000000 in
theorem link43 (openv : Bool) (K : Int → Prop) (h : VC43 openv K) : ACalls Try.prog 43 [toV1 .bool openv] (fun res => ∃ y, res = (fun y => [toV1 (.int .i64) y]) y ∧ K y) := by
  refine acalls_of_aw [(.int .i64)] [.t 2] Try.func43 rfl rfl rfl ?_
  unfold VC43 at h
  refine aw_seq ?_
  refine aw_region ?_
  refine awl_runp 1 [0] [] (ob := (True ∧ True)) (st' := (⟨4, [(0, [], .v (.c (.p .bool openv)))], []⟩ : St)) (by kernel_rfl) ⟨trivial, trivial⟩ ?_
  refine awl_nil ?_
  refine thenQ_n ?_
  refine aw_seq ?_
  refine aw_seq ?_
  refine aw_region ?_
  refine awl_runp 1 [3] [] (ob := (True ∧ True)) (st' := (⟨4, [(3, [], .v (.c (.p .bool openv)))], []⟩ : St)) (by kernel_rfl) ⟨trivial, trivial⟩ ?_
  refine awl_nil ?_
  refine thenQ_n ?_
  refine aw_cond (b := openv) (by kernel_rfl) (fun hb => ?_) (fun hb => ?_)
  · have h := h.1 hb
    refine aw_seq ?_
    refine aw_region ?_
    refine awl_runp 1 [2] [] (ob := (True ∧ True)) (st' := (⟨4, [(2, [], .v (.c (.p (.int .i64) (1 : Int))))], []⟩ : St)) (by kernel_rfl) ⟨trivial, trivial⟩ ?_
    refine awl_nil ?_
    refine thenQ_n ?_
    refine aw_ret ?_
    refine thenQ_r ?_
    exact retQ_r (σ := Int) (R := (fun y => [toV1 (.int .i64) y])) (ob := (True ∧ True)) (1 : Int) (by kernel_rfl) ⟨trivial, trivial⟩ h
  · have h := h.2 hb
    refine aw_skip ?_
    refine thenQ_n ?_
    refine aw_seq ?_
    refine aw_region ?_
    refine awl_runp 1 [2] [] (ob := (True ∧ True)) (st' := (⟨4, [(2, [], .v (.c (.p (.int .i64) (-1 : Int))))], []⟩ : St)) (by kernel_rfl) ⟨trivial, trivial⟩ ?_
    refine awl_nil ?_
    refine thenQ_n ?_
    refine aw_ret ?_
    exact retQ_r (σ := Int) (R := (fun y => [toV1 (.int .i64) y])) (ob := (True ∧ True)) (-1 : Int) (by kernel_rfl) ⟨trivial, trivial⟩ h

-- coppicer/bracket.balanced
def VC42_k1 (K : Bool → Prop) (n : Int) : Prop :=
  K (decide (n = (0 : Int)))

def VC42_l1 (l : (List Bool)) (K : Bool → Prop) (n : Int) (v8 : Int) (X1 : Int × Int → Prop) : Prop :=
  (((decide (v8 < (l.length : Int))) = true → (inIdx v8 l.length ∧ VC43 (l.getD (v8).toNat false) (fun (ret14v : Int) => (InR (n + ret14v) ∧ (((decide ((n + ret14v) < (0 : Int))) = true → K false) ∧ ((decide ((n + ret14v) < (0 : Int))) = false → (InR (v8 + (1 : Int)) ∧ X1 ((n + ret14v), (v8 + (1 : Int)))))))))) ∧ ((decide (v8 < (l.length : Int))) = false → VC42_k1 K n))

def VC42 (l : (List Bool)) (K : Bool → Prop) : Prop :=
  Loop (σ := Int × Int) (fun s X => VC42_l1 l K s.1 s.2 X) ((0 : Int), (0 : Int))

set_option maxHeartbeats 4000000 in
theorem link42 (l : (List Bool)) (K : Bool → Prop) (h : VC42 l K) : ACalls Try.prog 42 [toV1 (.sl .bool) l] (fun res => ∃ y, res = (fun y => [toV1 .bool y]) y ∧ K y) := by
  refine acalls_of_aw [.bool] [.t 2] Try.func42 rfl rfl rfl ?_
  unfold VC42 at h
  refine aw_seq ?_
  refine aw_region ?_
  refine awl_runp 1 [0] [] (ob := (True ∧ True)) (st' := (⟨21, [(0, [], .v (.c (.p (.sl .bool) l)))], []⟩ : St)) (by kernel_rfl) ⟨trivial, trivial⟩ ?_
  refine awl_nil ?_
  refine thenQ_n ?_
  refine aw_seq ?_
  refine aw_region ?_
  refine awl_runp 1 [0, 3] [] (ob := (True ∧ True)) (st' := (⟨21, [(0, [], .v (.c (.p (.sl .bool) l))), (3, [], .v (.c (.p (.int .i64) (0 : Int))))], []⟩ : St)) (by kernel_rfl) ⟨trivial, trivial⟩ ?_
  refine awl_nil ?_
  refine thenQ_n ?_
  refine aw_seq ?_
  refine aw_seq ?_
  refine aw_region ?_
  refine awl_runp 3 [3, 6, 7, 8] [] (ob := (True ∧ True ∧ True ∧ True)) (st' := (⟨21, [(3, [], .v (.c (.p (.int .i64) (0 : Int)))), (6, [], .v (.c (.p (.sl .bool) l))), (7, [], .v (.c (.p (.int .i64) (l.length : Int)))), (8, [], .v (.c (.p (.int .i64) (0 : Int))))], []⟩ : St)) (by kernel_rfl) ⟨trivial, trivial, trivial, trivial⟩ ?_
  refine awl_nil ?_
  refine thenQ_n ?_
  refine withJoin (σ := Int) (fun s => (⟨21, [(3, [], .v (.c (.p (.int .i64) s)))], []⟩ : St)) (fun s => VC42_k1 K s) (fun n h => ?_) (fun rest1 => ?_)
  · have h : VC42_k1 K n := h
    unfold VC42_k1 at h
    refine thenQ_n ?_
    refine aw_seq ?_
    refine aw_region ?_
    refine awl_runp 3 [2] [] (ob := (True ∧ True ∧ True ∧ True)) (st' := (⟨21, [(2, [], .v (.c (.p .bool (decide (n = (0 : Int))))))], []⟩ : St)) (by kernel_rfl) ⟨trivial, trivial, trivial, trivial⟩ ?_
    refine awl_nil ?_
    refine thenQ_n ?_
    refine aw_ret ?_
    exact retQ_r (σ := Bool) (R := (fun y => [toV1 .bool y])) (ob := (True ∧ True)) (decide (n = (0 : Int))) (by kernel_rfl) ⟨trivial, trivial⟩ h
  · refine aw_block ?_
    refine aw_loop (σ := Int × Int) (fun s => (⟨21, [(3, [], .v (.c (.p (.int .i64) s.1))), (6, [], .v (.c (.p (.sl .bool) l))), (7, [], .v (.c (.p (.int .i64) (l.length : Int)))), (8, [], .v (.c (.p (.int .i64) s.2)))], []⟩ : St)) (fun s X => VC42_l1 l K s.1 s.2 X) (s0 := ((0 : Int), (0 : Int))) (fun s X1 h => ?_) h
    obtain ⟨n, v8⟩ := s
    have h : VC42_l1 l K n v8 X1 := h
    unfold VC42_l1 at h
    refine aw_seq ?_
    refine aw_region ?_
    refine awl_runp 1 [3, 6, 7, 8, 9] [] (ob := (True ∧ True)) (st' := (⟨21, [(3, [], .v (.c (.p (.int .i64) n))), (6, [], .v (.c (.p (.sl .bool) l))), (7, [], .v (.c (.p (.int .i64) (l.length : Int)))), (8, [], .v (.c (.p (.int .i64) v8))), (9, [], .v (.c (.p .bool (decide (v8 < (l.length : Int))))))], []⟩ : St)) (by kernel_rfl) ⟨trivial, trivial⟩ ?_
    refine awl_nil ?_
    refine thenQ_n ?_
    refine aw_seq ?_
    refine aw_cond (b := (decide (v8 < (l.length : Int)))) (by kernel_rfl) (fun hb => ?_) (fun hb => ?_)
    · have h := h.1 hb
      refine aw_skip ?_
      refine thenQ_n ?_
      refine aw_seq ?_
      refine aw_block ?_
      refine aw_seq ?_
      refine aw_region ?_
      obtain ⟨o1, h⟩ := h
      refine awl_runp 3 [3, 5, 6, 7, 8] [] (ob := (inIdx v8 l.length ∧ True ∧ True ∧ True)) (st' := (⟨21, [(3, [], .v (.c (.p (.int .i64) n))), (5, [], .v (.c (.p .bool (l.getD (v8).toNat false)))), (6, [], .v (.c (.p (.sl .bool) l))), (7, [], .v (.c (.p (.int .i64) (l.length : Int)))), (8, [], .v (.c (.p (.int .i64) v8)))], []⟩ : St)) (by kernel_rfl) ⟨o1, trivial, trivial, trivial⟩ ?_
      refine awl_nil ?_
      refine thenQ_n ?_
      refine aw_seq ?_
      refine aw_region ?_
      refine awl_runp 2 [6, 7, 8, 12, 13] [] (ob := (True ∧ True ∧ True)) (st' := (⟨21, [(6, [], .v (.c (.p (.sl .bool) l))), (7, [], .v (.c (.p (.int .i64) (l.length : Int)))), (8, [], .v (.c (.p (.int .i64) v8))), (12, [], .v (.c (.p (.int .i64) n))), (13, [], .v (.c (.p .bool (l.getD (v8).toNat false))))], []⟩ : St)) (by kernel_rfl) ⟨trivial, trivial, trivial⟩ ?_
      refine awl_callk (p := []) (l := [toV1 .bool (l.getD (v8).toNat false)]) (cl := []) false [.d .bool] [6, 7, 8, 12, 14] [] (fun (ret14v : Int) => (InR (n + ret14v) ∧ (((decide ((n + ret14v) < (0 : Int))) = true → K false) ∧ ((decide ((n + ret14v) < (0 : Int))) = false → (InR (v8 + (1 : Int)) ∧ X1 ((n + ret14v), (v8 + (1 : Int)))))))) (fun ret14v => [toV1 (.int .i64) ret14v]) (fun ret14v => (⟨21, [(6, [], .v (.c (.p (.sl .bool) l))), (7, [], .v (.c (.p (.int .i64) (l.length : Int)))), (8, [], .v (.c (.p (.int .i64) v8))), (12, [], .v (.c (.p (.int .i64) n))), (14, [], .v (.c (.p (.int .i64) ret14v)))], []⟩ : St)) (by kernel_rfl) rfl (by kernel_rfl) rfl (by kernel_rfl) Try.call43 (by kernel_rfl) (fun ret14v => by kernel_rfl) (fun e => by cases e) (fun hg => link43 (l.getD (v8).toNat false) _ h) (fun hg => noF hg) (fun ret14v h => ?_)
      have h : (InR (n + ret14v) ∧ (((decide ((n + ret14v) < (0 : Int))) = true → K false) ∧ ((decide ((n + ret14v) < (0 : Int))) = false → (InR (v8 + (1 : Int)) ∧ X1 ((n + ret14v), (v8 + (1 : Int))))))) := h
      obtain ⟨o1, h⟩ := h
      refine awl_runp 2 [3, 6, 7, 8] [] (ob := (InR (n + ret14v) ∧ True ∧ True)) (st' := (⟨21, [(3, [], .v (.c (.p (.int .i64) (n + ret14v)))), (6, [], .v (.c (.p (.sl .bool) l))), (7, [], .v (.c (.p (.int .i64) (l.length : Int)))), (8, [], .v (.c (.p (.int .i64) v8)))], []⟩ : St)) (by kernel_rfl) ⟨o1, trivial, trivial⟩ ?_
      refine awl_nil ?_
      refine thenQ_n ?_
      refine aw_seq ?_
      refine aw_region ?_
      refine awl_runp 2 [3, 6, 7, 8, 17] [] (ob := (True ∧ True ∧ True)) (st' := (⟨21, [(3, [], .v (.c (.p (.int .i64) (n + ret14v)))), (6, [], .v (.c (.p (.sl .bool) l))), (7, [], .v (.c (.p (.int .i64) (l.length : Int)))), (8, [], .v (.c (.p (.int .i64) v8))), (17, [], .v (.c (.p .bool (decide ((n + ret14v) < (0 : Int))))))], []⟩ : St)) (by kernel_rfl) ⟨trivial, trivial, trivial⟩ ?_
      refine awl_nil ?_
      refine thenQ_n ?_
      refine aw_cond (b := (decide ((n + ret14v) < (0 : Int)))) (by kernel_rfl) (fun hb => ?_) (fun hb => ?_)
      · have h := h.1 hb
        refine aw_seq ?_
        refine aw_region ?_
        refine awl_runp 1 [2] [] (ob := (True ∧ True)) (st' := (⟨21, [(2, [], .v (.c (.p .bool false)))], []⟩ : St)) (by kernel_rfl) ⟨trivial, trivial⟩ ?_
        refine awl_nil ?_
        refine thenQ_n ?_
        refine aw_ret ?_
        refine blockQ_r ?_
        refine thenQ_r ?_
        refine thenQ_r ?_
        refine blockQ_r ?_
        refine thenQ_r ?_
        exact retQ_r (σ := Bool) (R := (fun y => [toV1 .bool y])) (ob := (True ∧ True)) false (by kernel_rfl) ⟨trivial, trivial⟩ h
      · have h := h.2 hb
        refine aw_skip ?_
        refine blockQ_n ?_
        refine thenQ_n ?_
        refine aw_region ?_
        obtain ⟨o1, h⟩ := h
        refine awl_runp 2 [3, 6, 7, 8] [] (ob := (InR (v8 + (1 : Int)) ∧ True ∧ True)) (st' := (⟨21, [(3, [], .v (.c (.p (.int .i64) (n + ret14v)))), (6, [], .v (.c (.p (.sl .bool) l))), (7, [], .v (.c (.p (.int .i64) (l.length : Int)))), (8, [], .v (.c (.p (.int .i64) (v8 + (1 : Int)))))], []⟩ : St)) (by kernel_rfl) ⟨o1, trivial, trivial⟩ ?_
        refine awl_nil ?_
        exact thenQ_n ⟨((n + ret14v), (v8 + (1 : Int))), rfl, h⟩
    · have h := h.2 hb
      refine aw_conv [.prune [3] []] (st' := (⟨21, [(3, [], .v (.c (.p (.int .i64) n)))], []⟩ : St)) (by kernel_rfl) ?_
      refine aw_exit ?_
      refine thenQ_x ?_
      refine thenQ_x ?_
      refine blockQ_hit ?_
      exact rest1 n h

-- coppicer/bracket.Rank
def VC23_k1 (K : Int × Int → Prop) (n : Int) : Prop :=
  K (n, (0 : Int))

def VC23_k2 (l : (List Bool)) (hv : Int) (v20 : Int) (X1 : Int × Int × Int → Prop) (n2 : Int) : Prop :=
  VC43 (l.getD (v20).toNat false) (fun (ret43v : Int) => (InR (hv + ret43v) ∧ (InR (v20 + (1 : Int)) ∧ X1 (n2, (hv + ret43v), (v20 + (1 : Int))))))

def VC23_l1 (l : (List Bool)) (K : Int × Int → Prop) (ret17v : (List (List Int))) (n : Int) (hv : Int) (v20 : Int) (X1 : Int × Int × Int → Prop) : Prop :=
  (((decide (v20 < (l.length : Int))) = true → (inIdx v20 l.length ∧ (((!(l.getD (v20).toNat false)) = true → (InR ((l.length : Int) - (1 : Int)) ∧ InR (((l.length : Int) - (1 : Int)) - v20) ∧ inIdx (((l.length : Int) - (1 : Int)) - v20) ret17v.length ∧ InR (hv + (1 : Int)) ∧ inIdx (hv + (1 : Int)) (ret17v.getD ((((l.length : Int) - (1 : Int)) - v20)).toNat ([] : (List Int))).length ∧ InR (n + ((ret17v.getD ((((l.length : Int) - (1 : Int)) - v20)).toNat ([] : (List Int))).getD ((hv + (1 : Int))).toNat (0 : Int))) ∧ VC23_k2 l hv v20 X1 (n + ((ret17v.getD ((((l.length : Int) - (1 : Int)) - v20)).toNat ([] : (List Int))).getD ((hv + (1 : Int))).toNat (0 : Int))))) ∧ ((!(l.getD (v20).toNat false)) = false → VC23_k2 l hv v20 X1 n)))) ∧ ((decide (v20 < (l.length : Int))) = false → VC23_k1 K n))

def VC23 (l : (List Bool)) (K : Int × Int → Prop) : Prop :=
  (((decide ((16 : Int) < (l.length : Int))) = true → K ((0 : Int), (1 : Int))) ∧ ((decide ((16 : Int) < (l.length : Int))) = false → VC42 l (fun (ret13v : Bool) => (((!ret13v) = true → K ((0 : Int), (3 : Int))) ∧ ((!ret13v) = false → VC41 (l.length : Int) (fun (ret17v : (List (List Int))) => Loop (σ := Int × Int × Int) (fun s X => VC23_l1 l K ret17v s.1 s.2.1 s.2.2 X) ((0 : Int), (0 : Int), (0 : Int))))))))

set_option maxHeartbeats 4000000 in
theorem link23 (l : (List Bool)) (K : Int × Int → Prop) (h : VC23 l K) : ACalls Try.prog 23 [toV1 (.sl .bool) l] (fun res => ∃ y, res = (fun y => [toV1 (.int .i64) y.1, toV1 (.int .i64) y.2]) y ∧ K y) := by
  refine acalls_of_aw [(.int .i64), (.int .i64)] [.t 2, .t 3] Try.func23 rfl rfl rfl ?_
  unfold VC23 at h
  refine aw_seq ?_
  refine aw_region ?_
  refine awl_runp 2 [0] [] (ob := (True ∧ True ∧ True)) (st' := (⟨47, [(0, [], .v (.c (.p (.sl .bool) l)))], []⟩ : St)) (by kernel_rfl) ⟨trivial, trivial, trivial⟩ ?_
  refine awl_nil ?_
  refine thenQ_n ?_
  refine aw_seq ?_
  refine aw_seq ?_
  refine aw_region ?_
  refine awl_runp 3 [0, 11] [] (ob := (True ∧ True ∧ True ∧ True)) (st' := (⟨47, [(0, [], .v (.c (.p (.sl .bool) l))), (11, [], .v (.c (.p .bool (decide ((16 : Int) < (l.length : Int))))))], []⟩ : St)) (by kernel_rfl) ⟨trivial, trivial, trivial, trivial⟩ ?_
  refine awl_nil ?_
  refine thenQ_n ?_
  refine aw_cond (b := (decide ((16 : Int) < (l.length : Int)))) (by kernel_rfl) (fun hb => ?_) (fun hb => ?_)
  · have h := h.1 hb
    refine aw_seq ?_
    refine aw_region ?_
    refine awl_runp 2 [2, 3] [] (ob := (True ∧ True ∧ True)) (st' := (⟨47, [(2, [], .v (.c (.p (.int .i64) (0 : Int)))), (3, [], .v (.c (.p (.int .i64) (1 : Int))))], []⟩ : St)) (by kernel_rfl) ⟨trivial, trivial, trivial⟩ ?_
    refine awl_nil ?_
    refine thenQ_n ?_
    refine aw_ret ?_
    refine thenQ_r ?_
    exact retQ_r (σ := Int × Int) (R := (fun y => [toV1 (.int .i64) y.1, toV1 (.int .i64) y.2])) (ob := (True ∧ True ∧ True)) ((0 : Int), (1 : Int)) (by kernel_rfl) ⟨trivial, trivial, trivial⟩ h
  · have h := h.2 hb
    refine aw_skip ?_
    refine thenQ_n ?_
    refine aw_seq ?_
    refine aw_seq ?_
    refine aw_region ?_
    refine awl_runp 1 [0, 12] [] (ob := (True ∧ True)) (st' := (⟨47, [(0, [], .v (.c (.p (.sl .bool) l))), (12, [], .v (.c (.p (.sl .bool) l)))], []⟩ : St)) (by kernel_rfl) ⟨trivial, trivial⟩ ?_
    refine awl_callk (p := []) (l := [toV1 (.sl .bool) l]) (cl := []) false [.d (.sl .bool)] [0, 13] [] (fun (ret13v : Bool) => (((!ret13v) = true → K ((0 : Int), (3 : Int))) ∧ ((!ret13v) = false → VC41 (l.length : Int) (fun (ret17v : (List (List Int))) => Loop (σ := Int × Int × Int) (fun s X => VC23_l1 l K ret17v s.1 s.2.1 s.2.2 X) ((0 : Int), (0 : Int), (0 : Int)))))) (fun ret13v => [toV1 .bool ret13v]) (fun ret13v => (⟨47, [(0, [], .v (.c (.p (.sl .bool) l))), (13, [], .v (.c (.p .bool ret13v)))], []⟩ : St)) (by kernel_rfl) rfl (by kernel_rfl) rfl (by kernel_rfl) Try.call42 (by kernel_rfl) (fun ret13v => by kernel_rfl) (fun e => by cases e) (fun hg => link42 l _ h) (fun hg => noF hg) (fun ret13v h => ?_)
    have h : (((!ret13v) = true → K ((0 : Int), (3 : Int))) ∧ ((!ret13v) = false → VC41 (l.length : Int) (fun (ret17v : (List (List Int))) => Loop (σ := Int × Int × Int) (fun s X => VC23_l1 l K ret17v s.1 s.2.1 s.2.2 X) ((0 : Int), (0 : Int), (0 : Int))))) := h
    refine awl_runp 1 [0, 14] [] (ob := (True ∧ True)) (st' := (⟨47, [(0, [], .v (.c (.p (.sl .bool) l))), (14, [], .v (.c (.p .bool (!ret13v))))], []⟩ : St)) (by kernel_rfl) ⟨trivial, trivial⟩ ?_
    refine awl_nil ?_
    refine thenQ_n ?_
    refine aw_cond (b := (!ret13v)) (by kernel_rfl) (fun hb => ?_) (fun hb => ?_)
    · have h := h.1 hb
      refine aw_seq ?_
      refine aw_region ?_
      refine awl_runp 2 [2, 3] [] (ob := (True ∧ True ∧ True)) (st' := (⟨47, [(2, [], .v (.c (.p (.int .i64) (0 : Int)))), (3, [], .v (.c (.p (.int .i64) (3 : Int))))], []⟩ : St)) (by kernel_rfl) ⟨trivial, trivial, trivial⟩ ?_
      refine awl_nil ?_
      refine thenQ_n ?_
      refine aw_ret ?_
      refine thenQ_r ?_
      exact retQ_r (σ := Int × Int) (R := (fun y => [toV1 (.int .i64) y.1, toV1 (.int .i64) y.2])) (ob := (True ∧ True ∧ True)) ((0 : Int), (3 : Int)) (by kernel_rfl) ⟨trivial, trivial, trivial⟩ h
    · have h := h.2 hb
      refine aw_skip ?_
      refine thenQ_n ?_
      refine aw_seq ?_
      refine aw_region ?_
      refine awl_runp 2 [0, 16] [] (ob := (True ∧ True ∧ True)) (st' := (⟨47, [(0, [], .v (.c (.p (.sl .bool) l))), (16, [], .v (.c (.p (.int .i64) (l.length : Int))))], []⟩ : St)) (by kernel_rfl) ⟨trivial, trivial, trivial⟩ ?_
      refine awl_callk (p := []) (l := [toV1 (.int .i64) (l.length : Int)]) (cl := []) false [.d (.int .i64)] [0, 17] [] (fun (ret17v : (List (List Int))) => Loop (σ := Int × Int × Int) (fun s X => VC23_l1 l K ret17v s.1 s.2.1 s.2.2 X) ((0 : Int), (0 : Int), (0 : Int))) (fun ret17v => [toV1 (.sl (.sl (.int .i64))) ret17v]) (fun ret17v => (⟨47, [(0, [], .v (.c (.p (.sl .bool) l))), (17, [], .v (.c (.p (.sl (.sl (.int .i64))) ret17v)))], []⟩ : St)) (by kernel_rfl) rfl (by kernel_rfl) rfl (by kernel_rfl) Try.call41 (by kernel_rfl) (fun ret17v => by kernel_rfl) (fun e => by cases e) (fun hg => link41 (l.length : Int) _ h) (fun hg => noF hg) (fun ret17v h => ?_)
      have h : Loop (σ := Int × Int × Int) (fun s X => VC23_l1 l K ret17v s.1 s.2.1 s.2.2 X) ((0 : Int), (0 : Int), (0 : Int)) := h
      refine awl_runp 1 [0, 4] [] (ob := (True ∧ True)) (st' := (⟨47, [(0, [], .v (.c (.p (.sl .bool) l))), (4, [], .v (.c (.p (.sl (.sl (.int .i64))) ret17v)))], []⟩ : St)) (by kernel_rfl) ⟨trivial, trivial⟩ ?_
      refine awl_nil ?_
      refine thenQ_n ?_
      refine aw_seq ?_
      refine aw_region ?_
      refine awl_runp 1 [0, 4, 5] [] (ob := (True ∧ True)) (st' := (⟨47, [(0, [], .v (.c (.p (.sl .bool) l))), (4, [], .v (.c (.p (.sl (.sl (.int .i64))) ret17v))), (5, [], .v (.c (.p (.int .i64) (0 : Int))))], []⟩ : St)) (by kernel_rfl) ⟨trivial, trivial⟩ ?_
      refine awl_nil ?_
      refine thenQ_n ?_
      refine aw_seq ?_
      refine aw_region ?_
      refine awl_runp 1 [0, 4, 5, 6] [] (ob := (True ∧ True)) (st' := (⟨47, [(0, [], .v (.c (.p (.sl .bool) l))), (4, [], .v (.c (.p (.sl (.sl (.int .i64))) ret17v))), (5, [], .v (.c (.p (.int .i64) (0 : Int)))), (6, [], .v (.c (.p (.int .i64) (0 : Int))))], []⟩ : St)) (by kernel_rfl) ⟨trivial, trivial⟩ ?_
      refine awl_nil ?_
      refine thenQ_n ?_
      refine aw_seq ?_
      refine aw_seq ?_
      refine aw_region ?_
      refine awl_runp 3 [0, 4, 5, 6, 18, 19, 20] [] (ob := (True ∧ True ∧ True ∧ True)) (st' := (⟨47, [(0, [], .v (.c (.p (.sl .bool) l))), (4, [], .v (.c (.p (.sl (.sl (.int .i64))) ret17v))), (5, [], .v (.c (.p (.int .i64) (0 : Int)))), (6, [], .v (.c (.p (.int .i64) (0 : Int)))), (18, [], .v (.c (.p (.sl .bool) l))), (19, [], .v (.c (.p (.int .i64) (l.length : Int)))), (20, [], .v (.c (.p (.int .i64) (0 : Int))))], []⟩ : St)) (by kernel_rfl) ⟨trivial, trivial, trivial, trivial⟩ ?_
      refine awl_nil ?_
      refine thenQ_n ?_
      refine withJoin (σ := Int) (fun s => (⟨47, [(5, [], .v (.c (.p (.int .i64) s)))], []⟩ : St)) (fun s => VC23_k1 K s) (fun n h => ?_) (fun rest1 => ?_)
      · have h : VC23_k1 K n := h
        unfold VC23_k1 at h
        refine thenQ_n ?_
        refine aw_seq ?_
        refine aw_region ?_
        refine awl_runp 3 [2, 3] [] (ob := (True ∧ True ∧ True ∧ True)) (st' := (⟨47, [(2, [], .v (.c (.p (.int .i64) n))), (3, [], .v (.c (.p (.int .i64) (0 : Int))))], []⟩ : St)) (by kernel_rfl) ⟨trivial, trivial, trivial, trivial⟩ ?_
        refine awl_nil ?_
        refine thenQ_n ?_
        refine aw_ret ?_
        exact retQ_r (σ := Int × Int) (R := (fun y => [toV1 (.int .i64) y.1, toV1 (.int .i64) y.2])) (ob := (True ∧ True ∧ True)) (n, (0 : Int)) (by kernel_rfl) ⟨trivial, trivial, trivial⟩ h
      · refine aw_block ?_
        refine aw_loop (σ := Int × Int × Int) (fun s => (⟨47, [(0, [], .v (.c (.p (.sl .bool) l))), (4, [], .v (.c (.p (.sl (.sl (.int .i64))) ret17v))), (5, [], .v (.c (.p (.int .i64) s.1))), (6, [], .v (.c (.p (.int .i64) s.2.1))), (18, [], .v (.c (.p (.sl .bool) l))), (19, [], .v (.c (.p (.int .i64) (l.length : Int)))), (20, [], .v (.c (.p (.int .i64) s.2.2)))], []⟩ : St)) (fun s X => VC23_l1 l K ret17v s.1 s.2.1 s.2.2 X) (s0 := ((0 : Int), (0 : Int), (0 : Int))) (fun s X1 h => ?_) h
        obtain ⟨n, hv, v20⟩ := s
        have h : VC23_l1 l K ret17v n hv v20 X1 := h
        unfold VC23_l1 at h
        refine aw_seq ?_
        refine aw_region ?_
        refine awl_runp 1 [0, 4, 5, 6, 18, 19, 20, 21] [] (ob := (True ∧ True)) (st' := (⟨47, [(0, [], .v (.c (.p (.sl .bool) l))), (4, [], .v (.c (.p (.sl (.sl (.int .i64))) ret17v))), (5, [], .v (.c (.p (.int .i64) n))), (6, [], .v (.c (.p (.int .i64) hv))), (18, [], .v (.c (.p (.sl .bool) l))), (19, [], .v (.c (.p (.int .i64) (l.length : Int)))), (20, [], .v (.c (.p (.int .i64) v20))), (21, [], .v (.c (.p .bool (decide (v20 < (l.length : Int))))))], []⟩ : St)) (by kernel_rfl) ⟨trivial, trivial⟩ ?_
        refine awl_nil ?_
        refine thenQ_n ?_
        refine aw_seq ?_
        refine aw_cond (b := (decide (v20 < (l.length : Int)))) (by kernel_rfl) (fun hb => ?_) (fun hb => ?_)
        · have h := h.1 hb
          refine aw_skip ?_
          refine thenQ_n ?_
          refine aw_seq ?_
          refine aw_block ?_
          refine aw_seq ?_
          refine aw_region ?_
          obtain ⟨o1, h⟩ := h
          refine awl_runp 5 [0, 4, 5, 6, 7, 8, 18, 19, 20] [] (ob := (True ∧ inIdx v20 l.length ∧ True ∧ True ∧ True ∧ True)) (st' := (⟨47, [(0, [], .v (.c (.p (.sl .bool) l))), (4, [], .v (.c (.p (.sl (.sl (.int .i64))) ret17v))), (5, [], .v (.c (.p (.int .i64) n))), (6, [], .v (.c (.p (.int .i64) hv))), (7, [], .v (.c (.p (.int .i64) v20))), (8, [], .v (.c (.p .bool (l.getD (v20).toNat false)))), (18, [], .v (.c (.p (.sl .bool) l))), (19, [], .v (.c (.p (.int .i64) (l.length : Int)))), (20, [], .v (.c (.p (.int .i64) v20)))], []⟩ : St)) (by kernel_rfl) ⟨trivial, o1, trivial, trivial, trivial, trivial⟩ ?_
          refine awl_nil ?_
          refine thenQ_n ?_
          refine aw_seq ?_
          refine aw_seq ?_
          refine aw_region ?_
          refine awl_runp 2 [0, 4, 5, 6, 7, 8, 18, 19, 20, 26] [] (ob := (True ∧ True ∧ True)) (st' := (⟨47, [(0, [], .v (.c (.p (.sl .bool) l))), (4, [], .v (.c (.p (.sl (.sl (.int .i64))) ret17v))), (5, [], .v (.c (.p (.int .i64) n))), (6, [], .v (.c (.p (.int .i64) hv))), (7, [], .v (.c (.p (.int .i64) v20))), (8, [], .v (.c (.p .bool (l.getD (v20).toNat false)))), (18, [], .v (.c (.p (.sl .bool) l))), (19, [], .v (.c (.p (.int .i64) (l.length : Int)))), (20, [], .v (.c (.p (.int .i64) v20))), (26, [], .v (.c (.p .bool (!(l.getD (v20).toNat false)))))], []⟩ : St)) (by kernel_rfl) ⟨trivial, trivial, trivial⟩ ?_
          refine awl_nil ?_
          refine thenQ_n ?_
          refine withJoin (σ := Int) (fun s => (⟨47, [(0, [], .v (.c (.p (.sl .bool) l))), (4, [], .v (.c (.p (.sl (.sl (.int .i64))) ret17v))), (5, [], .v (.c (.p (.int .i64) s))), (6, [], .v (.c (.p (.int .i64) hv))), (8, [], .v (.c (.p .bool (l.getD (v20).toNat false)))), (18, [], .v (.c (.p (.sl .bool) l))), (19, [], .v (.c (.p (.int .i64) (l.length : Int)))), (20, [], .v (.c (.p (.int .i64) v20)))], []⟩ : St)) (fun s => VC23_k2 l hv v20 X1 s) (fun n2 h => ?_) (fun rest2 => ?_)
          · have h : VC23_k2 l hv v20 X1 n2 := h
            unfold VC23_k2 at h
            refine thenQ_n ?_
            refine aw_region ?_
            refine awl_runp 2 [0, 4, 5, 18, 19, 20, 41, 42] [] (ob := (True ∧ True ∧ True)) (st' := (⟨47, [(0, [], .v (.c (.p (.sl .bool) l))), (4, [], .v (.c (.p (.sl (.sl (.int .i64))) ret17v))), (5, [], .v (.c (.p (.int .i64) n2))), (18, [], .v (.c (.p (.sl .bool) l))), (19, [], .v (.c (.p (.int .i64) (l.length : Int)))), (20, [], .v (.c (.p (.int .i64) v20))), (41, [], .v (.c (.p (.int .i64) hv))), (42, [], .v (.c (.p .bool (l.getD (v20).toNat false))))], []⟩ : St)) (by kernel_rfl) ⟨trivial, trivial, trivial⟩ ?_
            refine awl_callk (p := []) (l := [toV1 .bool (l.getD (v20).toNat false)]) (cl := []) false [.d .bool] [0, 4, 5, 18, 19, 20, 41, 43] [] (fun (ret43v : Int) => (InR (hv + ret43v) ∧ (InR (v20 + (1 : Int)) ∧ X1 (n2, (hv + ret43v), (v20 + (1 : Int)))))) (fun ret43v => [toV1 (.int .i64) ret43v]) (fun ret43v => (⟨47, [(0, [], .v (.c (.p (.sl .bool) l))), (4, [], .v (.c (.p (.sl (.sl (.int .i64))) ret17v))), (5, [], .v (.c (.p (.int .i64) n2))), (18, [], .v (.c (.p (.sl .bool) l))), (19, [], .v (.c (.p (.int .i64) (l.length : Int)))), (20, [], .v (.c (.p (.int .i64) v20))), (41, [], .v (.c (.p (.int .i64) hv))), (43, [], .v (.c (.p (.int .i64) ret43v)))], []⟩ : St)) (by kernel_rfl) rfl (by kernel_rfl) rfl (by kernel_rfl) Try.call43 (by kernel_rfl) (fun ret43v => by kernel_rfl) (fun e => by cases e) (fun hg => link43 (l.getD (v20).toNat false) _ h) (fun hg => noF hg) (fun ret43v h => ?_)
            have h : (InR (hv + ret43v) ∧ (InR (v20 + (1 : Int)) ∧ X1 (n2, (hv + ret43v), (v20 + (1 : Int))))) := h
            obtain ⟨o1, h⟩ := h
            refine awl_runp 2 [0, 4, 5, 6, 18, 19, 20] [] (ob := (InR (hv + ret43v) ∧ True ∧ True)) (st' := (⟨47, [(0, [], .v (.c (.p (.sl .bool) l))), (4, [], .v (.c (.p (.sl (.sl (.int .i64))) ret17v))), (5, [], .v (.c (.p (.int .i64) n2))), (6, [], .v (.c (.p (.int .i64) (hv + ret43v)))), (18, [], .v (.c (.p (.sl .bool) l))), (19, [], .v (.c (.p (.int .i64) (l.length : Int)))), (20, [], .v (.c (.p (.int .i64) v20)))], []⟩ : St)) (by kernel_rfl) ⟨o1, trivial, trivial⟩ ?_
            refine awl_nil ?_
            refine blockQ_n ?_
            refine thenQ_n ?_
            refine aw_region ?_
            obtain ⟨o1, h⟩ := h
            refine awl_runp 2 [0, 4, 5, 6, 18, 19, 20] [] (ob := (InR (v20 + (1 : Int)) ∧ True ∧ True)) (st' := (⟨47, [(0, [], .v (.c (.p (.sl .bool) l))), (4, [], .v (.c (.p (.sl (.sl (.int .i64))) ret17v))), (5, [], .v (.c (.p (.int .i64) n2))), (6, [], .v (.c (.p (.int .i64) (hv + ret43v)))), (18, [], .v (.c (.p (.sl .bool) l))), (19, [], .v (.c (.p (.int .i64) (l.length : Int)))), (20, [], .v (.c (.p (.int .i64) (v20 + (1 : Int)))))], []⟩ : St)) (by kernel_rfl) ⟨o1, trivial, trivial⟩ ?_
            refine awl_nil ?_
            exact thenQ_n ⟨(n2, (hv + ret43v), (v20 + (1 : Int))), rfl, h⟩
          · refine aw_cond (b := (!(l.getD (v20).toNat false))) (by kernel_rfl) (fun hb => ?_) (fun hb => ?_)
            · have h := h.1 hb
              refine aw_region ?_
              obtain ⟨o1, o2, o3, o4, o5, o6, h⟩ := h
              refine awl_runp 15 [0, 4, 5, 6, 8, 18, 19, 20] [] (ob := (True ∧ True ∧ True ∧ True ∧ InR ((l.length : Int) - (1 : Int)) ∧ True ∧ InR (((l.length : Int) - (1 : Int)) - v20) ∧ inIdx (((l.length : Int) - (1 : Int)) - v20) ret17v.length ∧ True ∧ True ∧ InR (hv + (1 : Int)) ∧ inIdx (hv + (1 : Int)) (ret17v.getD ((((l.length : Int) - (1 : Int)) - v20)).toNat ([] : (List Int))).length ∧ True ∧ InR (n + ((ret17v.getD ((((l.length : Int) - (1 : Int)) - v20)).toNat ([] : (List Int))).getD ((hv + (1 : Int))).toNat (0 : Int))) ∧ True ∧ True)) (st' := (⟨47, [(0, [], .v (.c (.p (.sl .bool) l))), (4, [], .v (.c (.p (.sl (.sl (.int .i64))) ret17v))), (5, [], .v (.c (.p (.int .i64) (n + ((ret17v.getD ((((l.length : Int) - (1 : Int)) - v20)).toNat ([] : (List Int))).getD ((hv + (1 : Int))).toNat (0 : Int)))))), (6, [], .v (.c (.p (.int .i64) hv))), (8, [], .v (.c (.p .bool (l.getD (v20).toNat false)))), (18, [], .v (.c (.p (.sl .bool) l))), (19, [], .v (.c (.p (.int .i64) (l.length : Int)))), (20, [], .v (.c (.p (.int .i64) v20)))], []⟩ : St)) (by kernel_rfl) ⟨trivial, trivial, trivial, trivial, o1, trivial, o2, o3, trivial, trivial, o4, o5, trivial, o6, trivial, trivial⟩ ?_
              refine awl_nil ?_
              exact rest2 (n + ((ret17v.getD ((((l.length : Int) - (1 : Int)) - v20)).toNat ([] : (List Int))).getD ((hv + (1 : Int))).toNat (0 : Int))) h
            · have h := h.2 hb
              refine aw_conv [.prune [0, 4, 5, 6, 8, 18, 19, 20] []] (st' := (⟨47, [(0, [], .v (.c (.p (.sl .bool) l))), (4, [], .v (.c (.p (.sl (.sl (.int .i64))) ret17v))), (5, [], .v (.c (.p (.int .i64) n))), (6, [], .v (.c (.p (.int .i64) hv))), (8, [], .v (.c (.p .bool (l.getD (v20).toNat false)))), (18, [], .v (.c (.p (.sl .bool) l))), (19, [], .v (.c (.p (.int .i64) (l.length : Int)))), (20, [], .v (.c (.p (.int .i64) v20)))], []⟩ : St)) (by kernel_rfl) ?_
              refine aw_skip ?_
              exact rest2 n h
        · have h := h.2 hb
          refine aw_conv [.prune [5] []] (st' := (⟨47, [(5, [], .v (.c (.p (.int .i64) n)))], []⟩ : St)) (by kernel_rfl) ?_
          refine aw_exit ?_
          refine thenQ_x ?_
          refine thenQ_x ?_
          refine blockQ_hit ?_
          exact rest1 n h

-- coppicer/coppicerref.Closed
def VC24_k1 (K : Bool → Prop) (left : (List Bool)) : Prop :=
  K (decide ((left.length : Int) = (0 : Int)))

def VC24_k2 (X1 : Int × (List Bool) → Prop) (i2 : Int) (left2 : (List Bool)) : Prop :=
  X1 (i2, left2)

def VC24_l1 (K : Bool → Prop) (i : Int) (left : (List Bool)) (X1 : Int × (List Bool) → Prop) : Prop :=
  (InR (i + (1 : Int)) ∧ (((decide ((i + (1 : Int)) < (left.length : Int))) = true → (inIdx i left.length ∧ ((left.getD ((i).toNat) false) = true → InR (i + (1 : Int))) ∧ ((left.getD ((i).toNat) false) = true → inIdx (i + (1 : Int)) left.length) ∧ ((((left.getD ((i).toNat) false) && (!(left.getD (((i + (1 : Int))).toNat) false))) = true → ((0 ≤ i ∧ i ≤ (left.length : Int)) ∧ InR (i + (2 : Int)) ∧ (0 ≤ (i + (2 : Int)) ∧ (i + (2 : Int)) ≤ (left.length : Int)) ∧ (roomN (([] : List Bool).length + ((left.drop 0).take ((i).toNat)).length) ∧ (roomN ((([] : List Bool) ++ ((left.drop 0).take ((i).toNat))).length + ((left.drop (((i + (2 : Int))).toNat)).take (left.length - ((i + (2 : Int))).toNat)).length) ∧ VC24_k2 X1 (0 : Int) ((([] : List Bool) ++ ((left.drop 0).take ((i).toNat))) ++ ((left.drop (((i + (2 : Int))).toNat)).take (left.length - ((i + (2 : Int))).toNat))))))) ∧ (((left.getD ((i).toNat) false) && (!(left.getD (((i + (1 : Int))).toNat) false))) = false → (InR (i + (1 : Int)) ∧ VC24_k2 X1 (i + (1 : Int)) left))))) ∧ ((decide ((i + (1 : Int)) < (left.length : Int))) = false → VC24_k1 K left)))

def VC24 (l : (List Bool)) (K : Bool → Prop) : Prop :=
  (roomN (([] : List Bool).length + l.length) ∧ Loop (σ := Int × (List Bool)) (fun s X => VC24_l1 K s.1 s.2 X) ((0 : Int), (([] : List Bool) ++ l)))

set_option maxHeartbeats 4000000 in
theorem link24 (l : (List Bool)) (K : Bool → Prop) (h : VC24 l K) : ACalls Try.prog 24 [toV1 (.sl .bool) l] (fun res => ∃ y, res = (fun y => [toV1 .bool y]) y ∧ K y) := by
  refine acalls_of_aw [.bool] [.t 2] Try.func24 rfl rfl rfl ?_
  unfold VC24 at h
  refine aw_seq ?_
  refine aw_region ?_
  refine awl_runp 1 [0] [] (ob := (True ∧ True)) (st' := (⟨40, [(0, [], .v (.c (.p (.sl .bool) l)))], []⟩ : St)) (by kernel_rfl) ⟨trivial, trivial⟩ ?_
  refine awl_nil ?_
  refine thenQ_n ?_
  refine aw_seq ?_
  refine aw_region ?_
  obtain ⟨o1, h⟩ := h
  refine awl_runp 4 [3] [7] (ob := (True ∧ True ∧ roomN (([] : List Bool).length + l.length) ∧ True ∧ True)) (st' := (⟨40, [(3, [], .v (.c (.own 7)))], [(7, [], .arr 4 .bool (([] : List Bool) ++ l))]⟩ : St)) (by kernel_rfl) ⟨trivial, trivial, o1, trivial, trivial⟩ ?_
  refine awl_nil ?_
  refine thenQ_n ?_
  refine aw_seq ?_
  refine aw_seq ?_
  refine aw_region ?_
  refine awl_runp 1 [3, 4] [7] (ob := (True ∧ True)) (st' := (⟨40, [(3, [], .v (.c (.own 7))), (4, [], .v (.c (.p (.int .i64) (0 : Int))))], [(7, [], .arr 4 .bool (([] : List Bool) ++ l))]⟩ : St)) (by kernel_rfl) ⟨trivial, trivial⟩ ?_
  refine awl_nil ?_
  refine thenQ_n ?_
  refine withJoin (σ := (List Bool)) (fun s => (⟨40, [(3, [], .v (.c (.own 7)))], [(7, [], .arr 4 .bool s)]⟩ : St)) (fun s => VC24_k1 K s) (fun left h => ?_) (fun rest1 => ?_)
  · have h : VC24_k1 K left := h
    unfold VC24_k1 at h
    refine thenQ_n ?_
    refine aw_seq ?_
    refine aw_region ?_
    refine awl_runp 4 [2] [] (ob := (True ∧ True ∧ True ∧ True ∧ True)) (st' := (⟨40, [(2, [], .v (.c (.p .bool (decide ((left.length : Int) = (0 : Int))))))], []⟩ : St)) (by kernel_rfl) ⟨trivial, trivial, trivial, trivial, trivial⟩ ?_
    refine awl_nil ?_
    refine thenQ_n ?_
    refine aw_ret ?_
    exact retQ_r (σ := Bool) (R := (fun y => [toV1 .bool y])) (ob := (True ∧ True)) (decide ((left.length : Int) = (0 : Int))) (by kernel_rfl) ⟨trivial, trivial⟩ h
  · refine aw_block ?_
    refine aw_loop (σ := Int × (List Bool)) (fun s => (⟨40, [(3, [], .v (.c (.own 7))), (4, [], .v (.c (.p (.int .i64) s.1)))], [(7, [], .arr 4 .bool s.2)]⟩ : St)) (fun s X => VC24_l1 K s.1 s.2 X) (s0 := ((0 : Int), (([] : List Bool) ++ l))) (fun s X1 h => ?_) h
    obtain ⟨i, left⟩ := s
    have h : VC24_l1 K i left X1 := h
    unfold VC24_l1 at h
    refine aw_seq ?_
    refine aw_seq ?_
    refine aw_region ?_
    obtain ⟨o1, h⟩ := h
    refine awl_runp 5 [3, 4, 12] [7] (ob := (True ∧ InR (i + (1 : Int)) ∧ True ∧ True ∧ True ∧ True)) (st' := (⟨40, [(3, [], .v (.c (.own 7))), (4, [], .v (.c (.p (.int .i64) i))), (12, [], .v (.c (.p .bool (decide ((i + (1 : Int)) < (left.length : Int))))))], [(7, [], .arr 4 .bool left)]⟩ : St)) (by kernel_rfl) ⟨trivial, o1, trivial, trivial, trivial, trivial⟩ ?_
    refine awl_nil ?_
    refine thenQ_n ?_
    refine aw_cond (b := (decide ((i + (1 : Int)) < (left.length : Int)))) (by kernel_rfl) (fun hb => ?_) (fun hb => ?_)
    · have h := h.1 hb
      refine aw_skip ?_
      refine thenQ_n ?_
      refine aw_block ?_
      refine aw_seq ?_
      refine aw_region ?_
      obtain ⟨o1, o2, o3, h⟩ := h
      refine awl_runp 12 [3, 4, 24] [7] (ob := (True ∧ True ∧ inIdx i left.length ∧ True ∧ True ∧ ((left.getD ((i).toNat) false) = true → True) ∧ ((left.getD ((i).toNat) false) = true → True) ∧ ((left.getD ((i).toNat) false) = true → InR (i + (1 : Int))) ∧ ((left.getD ((i).toNat) false) = true → inIdx (i + (1 : Int)) left.length) ∧ ((left.getD ((i).toNat) false) = true → True) ∧ ((left.getD ((i).toNat) false) = true → True) ∧ True ∧ True)) (st' := (⟨40, [(3, [], .v (.c (.own 7))), (4, [], .v (.c (.p (.int .i64) i))), (24, [], .v (.c (.p .bool ((left.getD ((i).toNat) false) && (!(left.getD (((i + (1 : Int))).toNat) false))))))], [(7, [], .arr 4 .bool left)]⟩ : St)) (by kernel_rfl) ⟨trivial, trivial, o1, trivial, trivial, (fun _ => trivial), (fun _ => trivial), o2, o3, (fun _ => trivial), (fun _ => trivial), trivial, trivial⟩ ?_
      refine awl_nil ?_
      refine thenQ_n ?_
      refine withJoin (σ := Int × (List Bool)) (fun s => (⟨40, [(3, [], .v (.c (.own 7))), (4, [], .v (.c (.p (.int .i64) s.1)))], [(7, [], .arr 4 .bool s.2)]⟩ : St)) (fun s => VC24_k2 X1 s.1 s.2) (fun s h => ?_) (fun rest2 => ?_)
      · obtain ⟨i2, left2⟩ := s
        have h : VC24_k2 X1 i2 left2 := h
        unfold VC24_k2 at h
        refine blockQ_n ?_
        exact thenQ_n ⟨(i2, left2), rfl, h⟩
      · refine aw_cond (b := ((left.getD ((i).toNat) false) && (!(left.getD (((i + (1 : Int))).toNat) false)))) (by kernel_rfl) (fun hb => ?_) (fun hb => ?_)
        · have h := h.1 hb
          refine aw_seq ?_
          refine awd_begin [25, 29] (by kernel_rfl) ?_
          obtain ⟨o1, o2, o3, h⟩ := h
          refine awd_runp (by kernel_rfl) [1, 2, 3, 5, 6, 7, 8] [3, 28, 33] [7] (ob := (True ∧ True ∧ (0 ≤ i ∧ i ≤ (left.length : Int)) ∧ True ∧ True ∧ InR (i + (2 : Int)) ∧ (0 ≤ (i + (2 : Int)) ∧ (i + (2 : Int)) ≤ (left.length : Int)) ∧ True)) (done' := [8, 7, 6, 5, 3, 2, 1]) (st' := (⟨40, [(3, [], .v (.c (.own 7))), (28, [], .v (.c (.vw 7 0 ((i).toNat) 1))), (33, [], .v (.c (.vw 7 (((i + (2 : Int))).toNat) (left.length - ((i + (2 : Int))).toNat) 1)))], [(7, [], .arr 4 .bool left)]⟩ : St)) (by kernel_rfl) ⟨trivial, trivial, o1, trivial, trivial, o2, o3, trivial⟩ ?_
          refine awd_one (i := 0) (by kernel_rfl) ?_
          refine adop_stepp [3, 25, 28, 33] [7, 25] (ob := True) (st' := (⟨40, [(3, [], .v (.c (.own 7))), (25, [], .v (.c (.own 25))), (28, [], .v (.c (.vw 7 0 ((i).toNat) 1))), (33, [], .v (.c (.vw 7 (((i + (2 : Int))).toNat) (left.length - ((i + (2 : Int))).toNat) 1)))], [(7, [], .arr 4 .bool left), (25, [], .arr 4 .bool ([] : List Bool))]⟩ : St)) rfl (by kernel_rfl) trivial ?_
          refine awd_one (i := 4) (by kernel_rfl) ?_
          obtain ⟨o1, h⟩ := h
          refine adop_stepp [3, 29, 33] [7, 29] (ob := roomN (([] : List Bool).length + ((left.drop 0).take ((i).toNat)).length)) (st' := (⟨40, [(3, [], .v (.c (.own 7))), (29, [], .v (.c (.own 29))), (33, [], .v (.c (.vw 7 (((i + (2 : Int))).toNat) (left.length - ((i + (2 : Int))).toNat) 1)))], [(7, [], .arr 4 .bool left), (29, [], .arr 4 .bool (([] : List Bool) ++ ((left.drop 0).take ((i).toNat))))]⟩ : St)) rfl (by kernel_rfl) o1 ?_
          refine awd_one (i := 9) (by kernel_rfl) ?_
          obtain ⟨o1, h⟩ := h
          refine adop_stepp [3, 34] [7, 34] (ob := roomN ((([] : List Bool) ++ ((left.drop 0).take ((i).toNat))).length + ((left.drop (((i + (2 : Int))).toNat)).take (left.length - ((i + (2 : Int))).toNat)).length)) (st' := (⟨40, [(3, [], .v (.c (.own 7))), (34, [], .v (.c (.own 34)))], [(7, [], .arr 4 .bool left), (34, [], .arr 4 .bool ((([] : List Bool) ++ ((left.drop 0).take ((i).toNat))) ++ ((left.drop (((i + (2 : Int))).toNat)).take (left.length - ((i + (2 : Int))).toNat))))]⟩ : St)) rfl (by kernel_rfl) o1 ?_
          refine awd_runp (by kernel_rfl) [10] [3] [34] (ob := (True ∧ True)) (done' := [10, 9, 4, 0, 8, 7, 6, 5, 3, 2, 1]) (st' := (⟨40, [(3, [], .v (.c (.own 34)))], [(34, [], .arr 4 .bool ((([] : List Bool) ++ ((left.drop 0).take ((i).toNat))) ++ ((left.drop (((i + (2 : Int))).toNat)).take (left.length - ((i + (2 : Int))).toNat))))]⟩ : St)) (by kernel_rfl) ⟨trivial, trivial⟩ ?_
          refine awd_done (by kernel_rfl) ?_
          refine thenQ_n ?_
          refine aw_region ?_
          refine awl_runp 1 [3, 4] [34] (ob := (True ∧ True)) (st' := (⟨40, [(3, [], .v (.c (.own 34))), (4, [], .v (.c (.p (.int .i64) (0 : Int))))], [(34, [], .arr 4 .bool ((([] : List Bool) ++ ((left.drop 0).take ((i).toNat))) ++ ((left.drop (((i + (2 : Int))).toNat)).take (left.length - ((i + (2 : Int))).toNat))))]⟩ : St)) (by kernel_rfl) ⟨trivial, trivial⟩ ?_
          refine awl_conv [.ren 34 20034, .ren 20034 7] (st' := (⟨40, [(3, [], .v (.c (.own 7))), (4, [], .v (.c (.p (.int .i64) (0 : Int))))], [(7, [], .arr 4 .bool ((([] : List Bool) ++ ((left.drop 0).take ((i).toNat))) ++ ((left.drop (((i + (2 : Int))).toNat)).take (left.length - ((i + (2 : Int))).toNat))))]⟩ : St)) (by kernel_rfl) ?_
          refine awl_nil ?_
          exact rest2 ((0 : Int), ((([] : List Bool) ++ ((left.drop 0).take ((i).toNat))) ++ ((left.drop (((i + (2 : Int))).toNat)).take (left.length - ((i + (2 : Int))).toNat)))) h
        · have h := h.2 hb
          refine aw_region ?_
          obtain ⟨o1, h⟩ := h
          refine awl_runp 3 [3, 4] [7] (ob := (True ∧ InR (i + (1 : Int)) ∧ True ∧ True)) (st' := (⟨40, [(3, [], .v (.c (.own 7))), (4, [], .v (.c (.p (.int .i64) (i + (1 : Int)))))], [(7, [], .arr 4 .bool left)]⟩ : St)) (by kernel_rfl) ⟨trivial, o1, trivial, trivial⟩ ?_
          refine awl_conv [.ren 7 20007, .ren 20007 34, .ren 34 20034, .ren 20034 7] (st' := (⟨40, [(3, [], .v (.c (.own 7))), (4, [], .v (.c (.p (.int .i64) (i + (1 : Int)))))], [(7, [], .arr 4 .bool left)]⟩ : St)) (by kernel_rfl) ?_
          refine awl_nil ?_
          exact rest2 ((i + (1 : Int)), left) h
    · have h := h.2 hb
      refine aw_conv [.prune [3] [7]] (st' := (⟨40, [(3, [], .v (.c (.own 7)))], [(7, [], .arr 4 .bool left)]⟩ : St)) (by kernel_rfl) ?_
      refine aw_exit ?_
      refine thenQ_x ?_
      refine thenQ_x ?_
      refine blockQ_hit ?_
      exact rest1 left h

-- coppicer/bracket.Word
def VC25_k1 (K : (List Bool) × Int → Prop) (out : (List Bool)) : Prop :=
  K (out, (0 : Int))

def VC25_k2 (ret19v : (List (List Int))) (i2 : Int) (hv : Int) (left : Int) (out : (List Bool)) (X1 : Int × Int × Int × (List Bool) → Prop) (i3 : Int) : Prop :=
  (roomN (out.length + [(decide (i2 < ((ret19v.getD (left).toNat ([] : (List Int))).getD ((hv + (1 : Int))).toNat (0 : Int))))].length) ∧ VC43 (decide (i2 < ((ret19v.getD (left).toNat ([] : (List Int))).getD ((hv + (1 : Int))).toNat (0 : Int)))) (fun (ret68v : Int) => (InR (hv + ret68v) ∧ (InR (left - (1 : Int)) ∧ X1 (i3, (hv + ret68v), (left - (1 : Int)), (out ++ [(decide (i2 < ((ret19v.getD (left).toNat ([] : (List Int))).getD ((hv + (1 : Int))).toNat (0 : Int))))]))))))

def VC25_l1 (K : (List Bool) × Int → Prop) (ret19v : (List (List Int))) (i2 : Int) (hv : Int) (left : Int) (out : (List Bool)) (X1 : Int × Int × Int × (List Bool) → Prop) : Prop :=
  (((decide ((0 : Int) ≤ left)) = true → (inIdx left ret19v.length ∧ InR (hv + (1 : Int)) ∧ inIdx (hv + (1 : Int)) (ret19v.getD (left).toNat ([] : (List Int))).length ∧ (((!(decide (i2 < ((ret19v.getD (left).toNat ([] : (List Int))).getD ((hv + (1 : Int))).toNat (0 : Int))))) = true → (inIdx left ret19v.length ∧ InR (hv + (1 : Int)) ∧ inIdx (hv + (1 : Int)) (ret19v.getD (left).toNat ([] : (List Int))).length ∧ InR (i2 - ((ret19v.getD (left).toNat ([] : (List Int))).getD ((hv + (1 : Int))).toNat (0 : Int))) ∧ VC25_k2 ret19v i2 hv left out X1 (i2 - ((ret19v.getD (left).toNat ([] : (List Int))).getD ((hv + (1 : Int))).toNat (0 : Int))))) ∧ ((!(decide (i2 < ((ret19v.getD (left).toNat ([] : (List Int))).getD ((hv + (1 : Int))).toNat (0 : Int))))) = false → VC25_k2 ret19v i2 hv left out X1 i2)))) ∧ ((decide ((0 : Int) ≤ left)) = false → VC25_k1 K out))

def VC25 (n : Int) (i : Int) (K : (List Bool) × Int → Prop) : Prop :=
  ((((decide (n < (0 : Int))) || (decide ((8 : Int) < n))) = true → K (([] : (List Bool)), (1 : Int))) ∧ (((decide (n < (0 : Int))) || (decide ((8 : Int) < n))) = false → (InR ((2 : Int) * n) ∧ VC41 ((2 : Int) * n) (fun (ret19v : (List (List Int))) => (((decide (i < (0 : Int))) = false → InR ((2 : Int) * n)) ∧ ((decide (i < (0 : Int))) = false → inIdx ((2 : Int) * n) ret19v.length) ∧ ((decide (i < (0 : Int))) = false → inIdx (0 : Int) (ret19v.getD (((2 : Int) * n)).toNat ([] : (List Int))).length) ∧ ((((decide (i < (0 : Int))) || (decide (((ret19v.getD (((2 : Int) * n)).toNat ([] : (List Int))).getD ((0 : Int)).toNat (0 : Int)) ≤ i))) = true → K (([] : (List Bool)), (5 : Int))) ∧ (((decide (i < (0 : Int))) || (decide (((ret19v.getD (((2 : Int) * n)).toNat ([] : (List Int))).getD ((0 : Int)).toNat (0 : Int)) ≤ i))) = false → (InR ((2 : Int) * n) ∧ InR (((2 : Int) * n) - (1 : Int)) ∧ Loop (σ := Int × Int × Int × (List Bool)) (fun s X => VC25_l1 K ret19v s.1 s.2.1 s.2.2.1 s.2.2.2 X) (i, (0 : Int), (((2 : Int) * n) - (1 : Int)), ([] : List Bool))))))))))

set_option maxHeartbeats 4000000 in
theorem link25 (n : Int) (i : Int) (K : (List Bool) × Int → Prop) (h : VC25 n i K) : ACalls Try.prog 25 [toV1 (.int .i64) n, toV1 (.int .i64) i] (fun res => ∃ y, res = (fun y => [toV1 (.sl .bool) y.1, toV1 (.int .i64) y.2]) y ∧ K y) := by
  refine acalls_of_aw [(.sl .bool), (.int .i64)] [.t 4, .t 5] Try.func25 rfl rfl rfl ?_
  unfold VC25 at h
  refine aw_seq ?_
  refine aw_region ?_
  refine awl_runp 2 [0, 1] [] (ob := (True ∧ True ∧ True)) (st' := (⟨71, [(0, [], .v (.c (.p (.int .i64) n))), (1, [], .v (.c (.p (.int .i64) i)))], []⟩ : St)) (by kernel_rfl) ⟨trivial, trivial, trivial⟩ ?_
  refine awl_nil ?_
  refine thenQ_n ?_
  refine aw_seq ?_
  refine aw_seq ?_
  refine aw_region ?_
  refine awl_runp 6 [0, 1, 16] [] (ob := (True ∧ True ∧ True ∧ ((decide (n < (0 : Int))) = false → True) ∧ ((decide (n < (0 : Int))) = false → True) ∧ True ∧ True)) (st' := (⟨71, [(0, [], .v (.c (.p (.int .i64) n))), (1, [], .v (.c (.p (.int .i64) i))), (16, [], .v (.c (.p .bool ((decide (n < (0 : Int))) || (decide ((8 : Int) < n))))))], []⟩ : St)) (by kernel_rfl) ⟨trivial, trivial, trivial, (fun _ => trivial), (fun _ => trivial), trivial, trivial⟩ ?_
  refine awl_nil ?_
  refine thenQ_n ?_
  refine aw_cond (b := ((decide (n < (0 : Int))) || (decide ((8 : Int) < n)))) (by kernel_rfl) (fun hb => ?_) (fun hb => ?_)
  · have h := h.1 hb
    refine aw_seq ?_
    refine aw_region ?_
    refine awl_runp 2 [4, 5] [] (ob := (True ∧ True ∧ True)) (st' := (⟨71, [(4, [], .v (.c (.nils))), (5, [], .v (.c (.p (.int .i64) (1 : Int))))], []⟩ : St)) (by kernel_rfl) ⟨trivial, trivial, trivial⟩ ?_
    refine awl_nil ?_
    refine thenQ_n ?_
    refine aw_ret ?_
    refine thenQ_r ?_
    exact retQ_r (σ := (List Bool) × Int) (R := (fun y => [toV1 (.sl .bool) y.1, toV1 (.int .i64) y.2])) (ob := (True ∧ True ∧ True)) (([] : (List Bool)), (1 : Int)) (by kernel_rfl) ⟨trivial, trivial, trivial⟩ h
  · have h := h.2 hb
    refine aw_skip ?_
    refine thenQ_n ?_
    refine aw_seq ?_
    refine aw_region ?_
    obtain ⟨o1, h⟩ := h
    refine awl_runp 2 [0, 1, 18] [] (ob := (True ∧ InR ((2 : Int) * n) ∧ True)) (st' := (⟨71, [(0, [], .v (.c (.p (.int .i64) n))), (1, [], .v (.c (.p (.int .i64) i))), (18, [], .v (.c (.p (.int .i64) ((2 : Int) * n))))], []⟩ : St)) (by kernel_rfl) ⟨trivial, o1, trivial⟩ ?_
    refine awl_callk (p := []) (l := [toV1 (.int .i64) ((2 : Int) * n)]) (cl := []) false [.d (.int .i64)] [0, 1, 19] [] (fun (ret19v : (List (List Int))) => (((decide (i < (0 : Int))) = false → InR ((2 : Int) * n)) ∧ ((decide (i < (0 : Int))) = false → inIdx ((2 : Int) * n) ret19v.length) ∧ ((decide (i < (0 : Int))) = false → inIdx (0 : Int) (ret19v.getD (((2 : Int) * n)).toNat ([] : (List Int))).length) ∧ ((((decide (i < (0 : Int))) || (decide (((ret19v.getD (((2 : Int) * n)).toNat ([] : (List Int))).getD ((0 : Int)).toNat (0 : Int)) ≤ i))) = true → K (([] : (List Bool)), (5 : Int))) ∧ (((decide (i < (0 : Int))) || (decide (((ret19v.getD (((2 : Int) * n)).toNat ([] : (List Int))).getD ((0 : Int)).toNat (0 : Int)) ≤ i))) = false → (InR ((2 : Int) * n) ∧ InR (((2 : Int) * n) - (1 : Int)) ∧ Loop (σ := Int × Int × Int × (List Bool)) (fun s X => VC25_l1 K ret19v s.1 s.2.1 s.2.2.1 s.2.2.2 X) (i, (0 : Int), (((2 : Int) * n) - (1 : Int)), ([] : List Bool))))))) (fun ret19v => [toV1 (.sl (.sl (.int .i64))) ret19v]) (fun ret19v => (⟨71, [(0, [], .v (.c (.p (.int .i64) n))), (1, [], .v (.c (.p (.int .i64) i))), (19, [], .v (.c (.p (.sl (.sl (.int .i64))) ret19v)))], []⟩ : St)) (by kernel_rfl) rfl (by kernel_rfl) rfl (by kernel_rfl) Try.call41 (by kernel_rfl) (fun ret19v => by kernel_rfl) (fun e => by cases e) (fun hg => link41 ((2 : Int) * n) _ h) (fun hg => noF hg) (fun ret19v h => ?_)
    have h : (((decide (i < (0 : Int))) = false → InR ((2 : Int) * n)) ∧ ((decide (i < (0 : Int))) = false → inIdx ((2 : Int) * n) ret19v.length) ∧ ((decide (i < (0 : Int))) = false → inIdx (0 : Int) (ret19v.getD (((2 : Int) * n)).toNat ([] : (List Int))).length) ∧ ((((decide (i < (0 : Int))) || (decide (((ret19v.getD (((2 : Int) * n)).toNat ([] : (List Int))).getD ((0 : Int)).toNat (0 : Int)) ≤ i))) = true → K (([] : (List Bool)), (5 : Int))) ∧ (((decide (i < (0 : Int))) || (decide (((ret19v.getD (((2 : Int) * n)).toNat ([] : (List Int))).getD ((0 : Int)).toNat (0 : Int)) ≤ i))) = false → (InR ((2 : Int) * n) ∧ InR (((2 : Int) * n) - (1 : Int)) ∧ Loop (σ := Int × Int × Int × (List Bool)) (fun s X => VC25_l1 K ret19v s.1 s.2.1 s.2.2.1 s.2.2.2 X) (i, (0 : Int), (((2 : Int) * n) - (1 : Int)), ([] : List Bool)))))) := h
    refine awl_runp 1 [0, 1, 6] [] (ob := (True ∧ True)) (st' := (⟨71, [(0, [], .v (.c (.p (.int .i64) n))), (1, [], .v (.c (.p (.int .i64) i))), (6, [], .v (.c (.p (.sl (.sl (.int .i64))) ret19v)))], []⟩ : St)) (by kernel_rfl) ⟨trivial, trivial⟩ ?_
    refine awl_nil ?_
    refine thenQ_n ?_
    refine aw_seq ?_
    refine aw_seq ?_
    refine aw_region ?_
    obtain ⟨o1, o2, o3, h⟩ := h
    refine awl_runp 13 [0, 1, 6, 32] [] (ob := (True ∧ True ∧ True ∧ ((decide (i < (0 : Int))) = false → True) ∧ ((decide (i < (0 : Int))) = false → True) ∧ ((decide (i < (0 : Int))) = false → True) ∧ ((decide (i < (0 : Int))) = false → InR ((2 : Int) * n)) ∧ ((decide (i < (0 : Int))) = false → inIdx ((2 : Int) * n) ret19v.length) ∧ ((decide (i < (0 : Int))) = false → True) ∧ ((decide (i < (0 : Int))) = false → inIdx (0 : Int) (ret19v.getD (((2 : Int) * n)).toNat ([] : (List Int))).length) ∧ ((decide (i < (0 : Int))) = false → True) ∧ ((decide (i < (0 : Int))) = false → True) ∧ True ∧ True)) (st' := (⟨71, [(0, [], .v (.c (.p (.int .i64) n))), (1, [], .v (.c (.p (.int .i64) i))), (6, [], .v (.c (.p (.sl (.sl (.int .i64))) ret19v))), (32, [], .v (.c (.p .bool ((decide (i < (0 : Int))) || (decide (((ret19v.getD (((2 : Int) * n)).toNat ([] : (List Int))).getD ((0 : Int)).toNat (0 : Int)) ≤ i))))))], []⟩ : St)) (by kernel_rfl) ⟨trivial, trivial, trivial, (fun _ => trivial), (fun _ => trivial), (fun _ => trivial), o1, o2, (fun _ => trivial), o3, (fun _ => trivial), (fun _ => trivial), trivial, trivial⟩ ?_
    refine awl_nil ?_
    refine thenQ_n ?_
    refine aw_cond (b := ((decide (i < (0 : Int))) || (decide (((ret19v.getD (((2 : Int) * n)).toNat ([] : (List Int))).getD ((0 : Int)).toNat (0 : Int)) ≤ i)))) (by kernel_rfl) (fun hb => ?_) (fun hb => ?_)
    · have h := h.1 hb
      refine aw_seq ?_
      refine aw_region ?_
      refine awl_runp 2 [4, 5] [] (ob := (True ∧ True ∧ True)) (st' := (⟨71, [(4, [], .v (.c (.nils))), (5, [], .v (.c (.p (.int .i64) (5 : Int))))], []⟩ : St)) (by kernel_rfl) ⟨trivial, trivial, trivial⟩ ?_
      refine awl_nil ?_
      refine thenQ_n ?_
      refine aw_ret ?_
      refine thenQ_r ?_
      exact retQ_r (σ := (List Bool) × Int) (R := (fun y => [toV1 (.sl .bool) y.1, toV1 (.int .i64) y.2])) (ob := (True ∧ True ∧ True)) (([] : (List Bool)), (5 : Int)) (by kernel_rfl) ⟨trivial, trivial, trivial⟩ h
    · have h := h.2 hb
      refine aw_skip ?_
      refine thenQ_n ?_
      refine aw_seq ?_
      refine aw_region ?_
      refine awl_runp 1 [0, 1, 6, 7] [] (ob := (True ∧ True)) (st' := (⟨71, [(0, [], .v (.c (.p (.int .i64) n))), (1, [], .v (.c (.p (.int .i64) i))), (6, [], .v (.c (.p (.sl (.sl (.int .i64))) ret19v))), (7, [], .v (.c (.nils)))], []⟩ : St)) (by kernel_rfl) ⟨trivial, trivial⟩ ?_
      refine awl_nil ?_
      refine thenQ_n ?_
      refine aw_seq ?_
      refine aw_region ?_
      refine awl_runp 1 [0, 1, 6, 7, 8] [] (ob := (True ∧ True)) (st' := (⟨71, [(0, [], .v (.c (.p (.int .i64) n))), (1, [], .v (.c (.p (.int .i64) i))), (6, [], .v (.c (.p (.sl (.sl (.int .i64))) ret19v))), (7, [], .v (.c (.nils))), (8, [], .v (.c (.p (.int .i64) (0 : Int))))], []⟩ : St)) (by kernel_rfl) ⟨trivial, trivial⟩ ?_
      refine awl_nil ?_
      refine thenQ_n ?_
      refine aw_seq ?_
      refine aw_seq ?_
      refine aw_region ?_
      obtain ⟨o1, o2, h⟩ := h
      refine awl_runp 4 [1, 6, 7, 8, 9] [] (ob := (True ∧ InR ((2 : Int) * n) ∧ InR (((2 : Int) * n) - (1 : Int)) ∧ True ∧ True)) (st' := (⟨71, [(1, [], .v (.c (.p (.int .i64) i))), (6, [], .v (.c (.p (.sl (.sl (.int .i64))) ret19v))), (7, [], .v (.c (.nils))), (8, [], .v (.c (.p (.int .i64) (0 : Int)))), (9, [], .v (.c (.p (.int .i64) (((2 : Int) * n) - (1 : Int)))))], []⟩ : St)) (by kernel_rfl) ⟨trivial, o1, o2, trivial, trivial⟩ ?_
      refine awl_nil ?_
      refine thenQ_n ?_
      refine withJoin (σ := (List Bool)) (fun s => (⟨71, [(7, [], .v (.c (.own 5007)))], [(5007, [], .arr 4 .bool s)]⟩ : St)) (fun s => VC25_k1 K s) (fun out h => ?_) (fun rest1 => ?_)
      · have h : VC25_k1 K out := h
        unfold VC25_k1 at h
        refine thenQ_n ?_
        refine aw_seq ?_
        refine aw_region ?_
        refine awl_runp 3 [4, 5] [5007] (ob := (True ∧ True ∧ True ∧ True)) (st' := (⟨71, [(4, [], .v (.c (.own 5007))), (5, [], .v (.c (.p (.int .i64) (0 : Int))))], [(5007, [], .arr 4 .bool out)]⟩ : St)) (by kernel_rfl) ⟨trivial, trivial, trivial, trivial⟩ ?_
        refine awl_nil ?_
        refine thenQ_n ?_
        refine aw_conv [.freeze 5007] (st' := (⟨71, [(4, [], .v (.c (.p (.sl .bool) out))), (5, [], .v (.c (.p (.int .i64) (0 : Int))))], []⟩ : St)) (by kernel_rfl) ?_
        refine aw_ret ?_
        exact retQ_r (σ := (List Bool) × Int) (R := (fun y => [toV1 (.sl .bool) y.1, toV1 (.int .i64) y.2])) (ob := (True ∧ True ∧ True)) (out, (0 : Int)) (by kernel_rfl) ⟨trivial, trivial, trivial⟩ h
      · refine aw_block ?_
        refine aw_conv [.nilOwn 7 5007 4 .bool, .prune [1, 6, 7, 8, 9] [5007]] (st' := (⟨71, [(1, [], .v (.c (.p (.int .i64) i))), (6, [], .v (.c (.p (.sl (.sl (.int .i64))) ret19v))), (7, [], .v (.c (.own 5007))), (8, [], .v (.c (.p (.int .i64) (0 : Int)))), (9, [], .v (.c (.p (.int .i64) (((2 : Int) * n) - (1 : Int)))))], [(5007, [], .arr 4 .bool ([] : List Bool))]⟩ : St)) (by kernel_rfl) ?_
        refine aw_loop (σ := Int × Int × Int × (List Bool)) (fun s => (⟨71, [(1, [], .v (.c (.p (.int .i64) s.1))), (6, [], .v (.c (.p (.sl (.sl (.int .i64))) ret19v))), (7, [], .v (.c (.own 5007))), (8, [], .v (.c (.p (.int .i64) s.2.1))), (9, [], .v (.c (.p (.int .i64) s.2.2.1)))], [(5007, [], .arr 4 .bool s.2.2.2)]⟩ : St)) (fun s X => VC25_l1 K ret19v s.1 s.2.1 s.2.2.1 s.2.2.2 X) (s0 := (i, (0 : Int), (((2 : Int) * n) - (1 : Int)), ([] : List Bool))) (fun s X1 h => ?_) h
        obtain ⟨i2, hv, left, out⟩ := s
        have h : VC25_l1 K ret19v i2 hv left out X1 := h
        unfold VC25_l1 at h
        refine aw_seq ?_
        refine aw_seq ?_
        refine aw_region ?_
        refine awl_runp 2 [1, 6, 7, 8, 9, 37] [5007] (ob := (True ∧ True ∧ True)) (st' := (⟨71, [(1, [], .v (.c (.p (.int .i64) i2))), (6, [], .v (.c (.p (.sl (.sl (.int .i64))) ret19v))), (7, [], .v (.c (.own 5007))), (8, [], .v (.c (.p (.int .i64) hv))), (9, [], .v (.c (.p (.int .i64) left))), (37, [], .v (.c (.p .bool (decide ((0 : Int) ≤ left)))))], [(5007, [], .arr 4 .bool out)]⟩ : St)) (by kernel_rfl) ⟨trivial, trivial, trivial⟩ ?_
        refine awl_nil ?_
        refine thenQ_n ?_
        refine aw_cond (b := (decide ((0 : Int) ≤ left))) (by kernel_rfl) (fun hb => ?_) (fun hb => ?_)
        · have h := h.1 hb
          refine aw_skip ?_
          refine thenQ_n ?_
          refine aw_seq ?_
          refine aw_block ?_
          refine aw_seq ?_
          refine aw_region ?_
          obtain ⟨o1, o2, o3, h⟩ := h
          refine awl_runp 11 [1, 6, 7, 8, 9, 10] [5007] (ob := (True ∧ True ∧ True ∧ inIdx left ret19v.length ∧ True ∧ True ∧ InR (hv + (1 : Int)) ∧ inIdx (hv + (1 : Int)) (ret19v.getD (left).toNat ([] : (List Int))).length ∧ True ∧ True ∧ True ∧ True)) (st' := (⟨71, [(1, [], .v (.c (.p (.int .i64) i2))), (6, [], .v (.c (.p (.sl (.sl (.int .i64))) ret19v))), (7, [], .v (.c (.own 5007))), (8, [], .v (.c (.p (.int .i64) hv))), (9, [], .v (.c (.p (.int .i64) left))), (10, [], .v (.c (.p .bool (decide (i2 < ((ret19v.getD (left).toNat ([] : (List Int))).getD ((hv + (1 : Int))).toNat (0 : Int)))))))], [(5007, [], .arr 4 .bool out)]⟩ : St)) (by kernel_rfl) ⟨trivial, trivial, trivial, o1, trivial, trivial, o2, o3, trivial, trivial, trivial, trivial⟩ ?_
          refine awl_nil ?_
          refine thenQ_n ?_
          refine aw_seq ?_
          refine aw_seq ?_
          refine aw_region ?_
          refine awl_runp 2 [1, 6, 7, 8, 9, 10, 51] [5007] (ob := (True ∧ True ∧ True)) (st' := (⟨71, [(1, [], .v (.c (.p (.int .i64) i2))), (6, [], .v (.c (.p (.sl (.sl (.int .i64))) ret19v))), (7, [], .v (.c (.own 5007))), (8, [], .v (.c (.p (.int .i64) hv))), (9, [], .v (.c (.p (.int .i64) left))), (10, [], .v (.c (.p .bool (decide (i2 < ((ret19v.getD (left).toNat ([] : (List Int))).getD ((hv + (1 : Int))).toNat (0 : Int))))))), (51, [], .v (.c (.p .bool (!(decide (i2 < ((ret19v.getD (left).toNat ([] : (List Int))).getD ((hv + (1 : Int))).toNat (0 : Int))))))))], [(5007, [], .arr 4 .bool out)]⟩ : St)) (by kernel_rfl) ⟨trivial, trivial, trivial⟩ ?_
          refine awl_nil ?_
          refine thenQ_n ?_
          refine withJoin (σ := Int) (fun s => (⟨71, [(1, [], .v (.c (.p (.int .i64) s))), (6, [], .v (.c (.p (.sl (.sl (.int .i64))) ret19v))), (7, [], .v (.c (.own 5007))), (8, [], .v (.c (.p (.int .i64) hv))), (9, [], .v (.c (.p (.int .i64) left))), (10, [], .v (.c (.p .bool (decide (i2 < ((ret19v.getD (left).toNat ([] : (List Int))).getD ((hv + (1 : Int))).toNat (0 : Int)))))))], [(5007, [], .arr 4 .bool out)]⟩ : St)) (fun s => VC25_k2 ret19v i2 hv left out X1 s) (fun i3 h => ?_) (fun rest2 => ?_)
          · have h : VC25_k2 ret19v i2 hv left out X1 i3 := h
            unfold VC25_k2 at h
            refine thenQ_n ?_
            refine aw_seq ?_
            refine aw_region ?_
            obtain ⟨o1, h⟩ := h
            refine awl_runp 5 [1, 6, 7, 8, 9, 10] [65] (ob := (True ∧ True ∧ True ∧ roomN (out.length + [(decide (i2 < ((ret19v.getD (left).toNat ([] : (List Int))).getD ((hv + (1 : Int))).toNat (0 : Int))))].length) ∧ True ∧ True)) (st' := (⟨71, [(1, [], .v (.c (.p (.int .i64) i3))), (6, [], .v (.c (.p (.sl (.sl (.int .i64))) ret19v))), (7, [], .v (.c (.own 65))), (8, [], .v (.c (.p (.int .i64) hv))), (9, [], .v (.c (.p (.int .i64) left))), (10, [], .v (.c (.p .bool (decide (i2 < ((ret19v.getD (left).toNat ([] : (List Int))).getD ((hv + (1 : Int))).toNat (0 : Int)))))))], [(65, [], .arr 4 .bool (out ++ [(decide (i2 < ((ret19v.getD (left).toNat ([] : (List Int))).getD ((hv + (1 : Int))).toNat (0 : Int))))]))]⟩ : St)) (by kernel_rfl) ⟨trivial, trivial, trivial, o1, trivial, trivial⟩ ?_
            refine awl_nil ?_
            refine thenQ_n ?_
            refine aw_region ?_
            refine awl_runp 2 [1, 6, 7, 9, 66, 67] [65] (ob := (True ∧ True ∧ True)) (st' := (⟨71, [(1, [], .v (.c (.p (.int .i64) i3))), (6, [], .v (.c (.p (.sl (.sl (.int .i64))) ret19v))), (7, [], .v (.c (.own 65))), (9, [], .v (.c (.p (.int .i64) left))), (66, [], .v (.c (.p (.int .i64) hv))), (67, [], .v (.c (.p .bool (decide (i2 < ((ret19v.getD (left).toNat ([] : (List Int))).getD ((hv + (1 : Int))).toNat (0 : Int)))))))], [(65, [], .arr 4 .bool (out ++ [(decide (i2 < ((ret19v.getD (left).toNat ([] : (List Int))).getD ((hv + (1 : Int))).toNat (0 : Int))))]))]⟩ : St)) (by kernel_rfl) ⟨trivial, trivial, trivial⟩ ?_
            refine awl_callk (p := []) (l := [toV1 .bool (decide (i2 < ((ret19v.getD (left).toNat ([] : (List Int))).getD ((hv + (1 : Int))).toNat (0 : Int))))]) (cl := []) false [.d .bool] [1, 6, 7, 9, 66, 68] [65] (fun (ret68v : Int) => (InR (hv + ret68v) ∧ (InR (left - (1 : Int)) ∧ X1 (i3, (hv + ret68v), (left - (1 : Int)), (out ++ [(decide (i2 < ((ret19v.getD (left).toNat ([] : (List Int))).getD ((hv + (1 : Int))).toNat (0 : Int))))]))))) (fun ret68v => [toV1 (.int .i64) ret68v]) (fun ret68v => (⟨71, [(1, [], .v (.c (.p (.int .i64) i3))), (6, [], .v (.c (.p (.sl (.sl (.int .i64))) ret19v))), (7, [], .v (.c (.own 65))), (9, [], .v (.c (.p (.int .i64) left))), (66, [], .v (.c (.p (.int .i64) hv))), (68, [], .v (.c (.p (.int .i64) ret68v)))], [(65, [], .arr 4 .bool (out ++ [(decide (i2 < ((ret19v.getD (left).toNat ([] : (List Int))).getD ((hv + (1 : Int))).toNat (0 : Int))))]))]⟩ : St)) (by kernel_rfl) rfl (by kernel_rfl) rfl (by kernel_rfl) Try.call43 (by kernel_rfl) (fun ret68v => by kernel_rfl) (fun e => by cases e) (fun hg => link43 (decide (i2 < ((ret19v.getD (left).toNat ([] : (List Int))).getD ((hv + (1 : Int))).toNat (0 : Int)))) _ h) (fun hg => noF hg) (fun ret68v h => ?_)
            have h : (InR (hv + ret68v) ∧ (InR (left - (1 : Int)) ∧ X1 (i3, (hv + ret68v), (left - (1 : Int)), (out ++ [(decide (i2 < ((ret19v.getD (left).toNat ([] : (List Int))).getD ((hv + (1 : Int))).toNat (0 : Int))))])))) := h
            obtain ⟨o1, h⟩ := h
            refine awl_runp 2 [1, 6, 7, 8, 9] [65] (ob := (InR (hv + ret68v) ∧ True ∧ True)) (st' := (⟨71, [(1, [], .v (.c (.p (.int .i64) i3))), (6, [], .v (.c (.p (.sl (.sl (.int .i64))) ret19v))), (7, [], .v (.c (.own 65))), (8, [], .v (.c (.p (.int .i64) (hv + ret68v)))), (9, [], .v (.c (.p (.int .i64) left)))], [(65, [], .arr 4 .bool (out ++ [(decide (i2 < ((ret19v.getD (left).toNat ([] : (List Int))).getD ((hv + (1 : Int))).toNat (0 : Int))))]))]⟩ : St)) (by kernel_rfl) ⟨o1, trivial, trivial⟩ ?_
            refine awl_nil ?_
            refine blockQ_n ?_
            refine thenQ_n ?_
            refine aw_region ?_
            obtain ⟨o1, h⟩ := h
            refine awl_runp 3 [1, 6, 7, 8, 9] [65] (ob := (True ∧ InR (left - (1 : Int)) ∧ True ∧ True)) (st' := (⟨71, [(1, [], .v (.c (.p (.int .i64) i3))), (6, [], .v (.c (.p (.sl (.sl (.int .i64))) ret19v))), (7, [], .v (.c (.own 65))), (8, [], .v (.c (.p (.int .i64) (hv + ret68v)))), (9, [], .v (.c (.p (.int .i64) (left - (1 : Int)))))], [(65, [], .arr 4 .bool (out ++ [(decide (i2 < ((ret19v.getD (left).toNat ([] : (List Int))).getD ((hv + (1 : Int))).toNat (0 : Int))))]))]⟩ : St)) (by kernel_rfl) ⟨trivial, o1, trivial, trivial⟩ ?_
            refine awl_conv [.ren 65 20065, .ren 20065 5007] (st' := (⟨71, [(1, [], .v (.c (.p (.int .i64) i3))), (6, [], .v (.c (.p (.sl (.sl (.int .i64))) ret19v))), (7, [], .v (.c (.own 5007))), (8, [], .v (.c (.p (.int .i64) (hv + ret68v)))), (9, [], .v (.c (.p (.int .i64) (left - (1 : Int)))))], [(5007, [], .arr 4 .bool (out ++ [(decide (i2 < ((ret19v.getD (left).toNat ([] : (List Int))).getD ((hv + (1 : Int))).toNat (0 : Int))))]))]⟩ : St)) (by kernel_rfl) ?_
            refine awl_nil ?_
            exact thenQ_n ⟨(i3, (hv + ret68v), (left - (1 : Int)), (out ++ [(decide (i2 < ((ret19v.getD (left).toNat ([] : (List Int))).getD ((hv + (1 : Int))).toNat (0 : Int))))])), rfl, h⟩
          · refine aw_cond (b := (!(decide (i2 < ((ret19v.getD (left).toNat ([] : (List Int))).getD ((hv + (1 : Int))).toNat (0 : Int)))))) (by kernel_rfl) (fun hb => ?_) (fun hb => ?_)
            · have h := h.1 hb
              refine aw_region ?_
              obtain ⟨o1, o2, o3, o4, h⟩ := h
              refine awl_runp 11 [1, 6, 7, 8, 9, 10] [5007] (ob := (True ∧ True ∧ True ∧ inIdx left ret19v.length ∧ True ∧ True ∧ InR (hv + (1 : Int)) ∧ inIdx (hv + (1 : Int)) (ret19v.getD (left).toNat ([] : (List Int))).length ∧ True ∧ InR (i2 - ((ret19v.getD (left).toNat ([] : (List Int))).getD ((hv + (1 : Int))).toNat (0 : Int))) ∧ True ∧ True)) (st' := (⟨71, [(1, [], .v (.c (.p (.int .i64) (i2 - ((ret19v.getD (left).toNat ([] : (List Int))).getD ((hv + (1 : Int))).toNat (0 : Int)))))), (6, [], .v (.c (.p (.sl (.sl (.int .i64))) ret19v))), (7, [], .v (.c (.own 5007))), (8, [], .v (.c (.p (.int .i64) hv))), (9, [], .v (.c (.p (.int .i64) left))), (10, [], .v (.c (.p .bool (decide (i2 < ((ret19v.getD (left).toNat ([] : (List Int))).getD ((hv + (1 : Int))).toNat (0 : Int)))))))], [(5007, [], .arr 4 .bool out)]⟩ : St)) (by kernel_rfl) ⟨trivial, trivial, trivial, o1, trivial, trivial, o2, o3, trivial, o4, trivial, trivial⟩ ?_
              refine awl_nil ?_
              exact rest2 (i2 - ((ret19v.getD (left).toNat ([] : (List Int))).getD ((hv + (1 : Int))).toNat (0 : Int))) h
            · have h := h.2 hb
              refine aw_conv [.prune [1, 6, 7, 8, 9, 10] [5007]] (st' := (⟨71, [(1, [], .v (.c (.p (.int .i64) i2))), (6, [], .v (.c (.p (.sl (.sl (.int .i64))) ret19v))), (7, [], .v (.c (.own 5007))), (8, [], .v (.c (.p (.int .i64) hv))), (9, [], .v (.c (.p (.int .i64) left))), (10, [], .v (.c (.p .bool (decide (i2 < ((ret19v.getD (left).toNat ([] : (List Int))).getD ((hv + (1 : Int))).toNat (0 : Int)))))))], [(5007, [], .arr 4 .bool out)]⟩ : St)) (by kernel_rfl) ?_
              refine aw_skip ?_
              exact rest2 i2 h
        · have h := h.2 hb
          refine aw_conv [.prune [7] [5007]] (st' := (⟨71, [(7, [], .v (.c (.own 5007)))], [(5007, [], .arr 4 .bool out)]⟩ : St)) (by kernel_rfl) ?_
          refine aw_exit ?_
          refine thenQ_x ?_
          refine thenQ_x ?_
          refine blockQ_hit ?_
          exact rest1 out h

-- coppicer/bracket.Is
def VC18 (l : (List Bool)) (K : Bool × Int → Prop) : Prop :=
  (((decide ((60 : Int) < (l.length : Int))) = true → K (false, (1 : Int))) ∧ ((decide ((60 : Int) < (l.length : Int))) = false → VC42 l (fun (ret8v : Bool) => K (ret8v, (0 : Int)))))

set_option maxHeartbeats 4000000 in
theorem link18 (l : (List Bool)) (K : Bool × Int → Prop) (h : VC18 l K) : ACalls Try.prog 18 [toV1 (.sl .bool) l] (fun res => ∃ y, res = (fun y => [toV1 .bool y.1, toV1 (.int .i64) y.2]) y ∧ K y) := by
  refine acalls_of_aw [.bool, (.int .i64)] [.t 2, .t 3] Try.func18 rfl rfl rfl ?_
  unfold VC18 at h
  refine aw_seq ?_
  refine aw_region ?_
  refine awl_runp 2 [0] [] (ob := (True ∧ True ∧ True)) (st' := (⟨9, [(0, [], .v (.c (.p (.sl .bool) l)))], []⟩ : St)) (by kernel_rfl) ⟨trivial, trivial, trivial⟩ ?_
  refine awl_nil ?_
  refine thenQ_n ?_
  refine aw_seq ?_
  refine aw_seq ?_
  refine aw_region ?_
  refine awl_runp 3 [0, 6] [] (ob := (True ∧ True ∧ True ∧ True)) (st' := (⟨9, [(0, [], .v (.c (.p (.sl .bool) l))), (6, [], .v (.c (.p .bool (decide ((60 : Int) < (l.length : Int))))))], []⟩ : St)) (by kernel_rfl) ⟨trivial, trivial, trivial, trivial⟩ ?_
  refine awl_nil ?_
  refine thenQ_n ?_
  refine aw_cond (b := (decide ((60 : Int) < (l.length : Int)))) (by kernel_rfl) (fun hb => ?_) (fun hb => ?_)
  · have h := h.1 hb
    refine aw_seq ?_
    refine aw_region ?_
    refine awl_runp 2 [2, 3] [] (ob := (True ∧ True ∧ True)) (st' := (⟨9, [(2, [], .v (.c (.p .bool false))), (3, [], .v (.c (.p (.int .i64) (1 : Int))))], []⟩ : St)) (by kernel_rfl) ⟨trivial, trivial, trivial⟩ ?_
    refine awl_nil ?_
    refine thenQ_n ?_
    refine aw_ret ?_
    refine thenQ_r ?_
    exact retQ_r (σ := Bool × Int) (R := (fun y => [toV1 .bool y.1, toV1 (.int .i64) y.2])) (ob := (True ∧ True ∧ True)) (false, (1 : Int)) (by kernel_rfl) ⟨trivial, trivial, trivial⟩ h
  · have h := h.2 hb
    refine aw_skip ?_
    refine thenQ_n ?_
    refine aw_seq ?_
    refine aw_region ?_
    refine awl_runp 1 [7] [] (ob := (True ∧ True)) (st' := (⟨9, [(7, [], .v (.c (.p (.sl .bool) l)))], []⟩ : St)) (by kernel_rfl) ⟨trivial, trivial⟩ ?_
    refine awl_callk (p := []) (l := [toV1 (.sl .bool) l]) (cl := []) false [.d (.sl .bool)] [8] [] (fun (ret8v : Bool) => K (ret8v, (0 : Int))) (fun ret8v => [toV1 .bool ret8v]) (fun ret8v => (⟨9, [(8, [], .v (.c (.p .bool ret8v)))], []⟩ : St)) (by kernel_rfl) rfl (by kernel_rfl) rfl (by kernel_rfl) Try.call42 (by kernel_rfl) (fun ret8v => by kernel_rfl) (fun e => by cases e) (fun hg => link42 l _ h) (fun hg => noF hg) (fun ret8v h => ?_)
    have h : K (ret8v, (0 : Int)) := h
    refine awl_runp 2 [2, 3] [] (ob := (True ∧ True ∧ True)) (st' := (⟨9, [(2, [], .v (.c (.p .bool ret8v))), (3, [], .v (.c (.p (.int .i64) (0 : Int))))], []⟩ : St)) (by kernel_rfl) ⟨trivial, trivial, trivial⟩ ?_
    refine awl_nil ?_
    refine thenQ_n ?_
    refine aw_ret ?_
    exact retQ_r (σ := Bool × Int) (R := (fun y => [toV1 .bool y.1, toV1 (.int .i64) y.2])) (ob := (True ∧ True ∧ True)) (ret8v, (0 : Int)) (by kernel_rfl) ⟨trivial, trivial, trivial⟩ h

-- coppicer/coppicerkeep.BracketBack
def VC7_k1 (n : Int) (i : Int) (K : Bool → Prop) : Prop :=
  VC25 n i (fun (ret72v : (List Bool) × Int) => (((!decide (ret72v.2 = (0 : Int))) = true → K (decide ((ret72v.1.length : Int) = (0 : Int)))) ∧ ((!decide (ret72v.2 = (0 : Int))) = false → VC18 ret72v.1 (fun (ret82v : Bool × Int) => VC23 ret72v.1 (fun (ret87v : Int × Int) => ((((((decide (ret82v.2 = (0 : Int))) && (decide (ret87v.2 = (0 : Int)))) && ret82v.1) && (decide (ret87v.1 = i))) = true → InR ((2 : Int) * n)) ∧ K (((((decide (ret82v.2 = (0 : Int))) && (decide (ret87v.2 = (0 : Int)))) && ret82v.1) && (decide (ret87v.1 = i))) && (decide ((ret72v.1.length : Int) = ((2 : Int) * n))))))))))

def VC7_k2 (n : Int) (i : Int) (K : Bool → Prop) : Prop :=
  VC7_k1 n i K

def VC7_l1 (l : (List Bool)) (n : Int) (i : Int) (K : Bool → Prop) (ret38v : (List Bool) × Int) (j : Int) (X1 : Int → Prop) : Prop :=
  (((decide (j < (l.length : Int))) = true → (inIdx j l.length ∧ inIdx j ret38v.1.length ∧ ((((l.getD (j).toNat false) != (ret38v.1.getD (j).toNat false)) = true → K false) ∧ (((l.getD (j).toNat false) != (ret38v.1.getD (j).toNat false)) = false → (InR (j + (1 : Int)) ∧ X1 (j + (1 : Int))))))) ∧ ((decide (j < (l.length : Int))) = false → VC7_k2 n i K))

def VC7 (l : (List Bool)) (n : Int) (i : Int) (K : Bool → Prop) : Prop :=
  VC23 l (fun (ret20v : Int × Int) => gcall (α := Bool) (!(decide ((16 : Int) < (l.length : Int)))) (VC24 l) false (fun (ret28v : Bool) => ((((decide ((16 : Int) < (l.length : Int))) || (!ret28v)) = true → (((decide (ret20v.2 = (0 : Int))) = true → K false) ∧ ((decide (ret20v.2 = (0 : Int))) = false → VC7_k1 n i K))) ∧ (((decide ((16 : Int) < (l.length : Int))) || (!ret28v)) = false → ((0 ≤ (l.length : Int) ∧ 0 < (2 : Int)) ∧ VC25 ((l.length : Int) / (2 : Int)) ret20v.1 (fun (ret38v : (List Bool) × Int) => (((((!decide (ret20v.2 = (0 : Int))) || (!decide (ret38v.2 = (0 : Int)))) || (!decide ((ret38v.1.length : Int) = (l.length : Int)))) = true → K false) ∧ ((((!decide (ret20v.2 = (0 : Int))) || (!decide (ret38v.2 = (0 : Int)))) || (!decide ((ret38v.1.length : Int) = (l.length : Int)))) = false → Loop (σ := Int) (fun s X => VC7_l1 l n i K ret38v s X) (0 : Int)))))))))

set_option maxHeartbeats 4000000 in
theorem link7 (l : (List Bool)) (n : Int) (i : Int) (K : Bool → Prop) (h : VC7 l n i K) : ACalls Try.prog 7 [toV1 (.sl .bool) l, toV1 (.int .i64) n, toV1 (.int .i64) i] (fun res => ∃ y, res = (fun y => [toV1 .bool y]) y ∧ K y) := by
  refine acalls_of_aw [.bool] [.t 6] Try.func7 rfl rfl rfl ?_
  unfold VC7 at h
  refine aw_seq ?_
  refine aw_region ?_
  refine awl_runp 1 [0, 1, 2] [] (ob := (True ∧ True)) (st' := (⟨111, [(0, [], .v (.c (.p (.sl .bool) l))), (1, [], .v (.c (.p (.int .i64) n))), (2, [], .v (.c (.p (.int .i64) i)))], []⟩ : St)) (by kernel_rfl) ⟨trivial, trivial⟩ ?_
  refine awl_nil ?_
  refine thenQ_n ?_
  refine aw_seq ?_
  refine aw_region ?_
  refine awl_runp 1 [0, 1, 2, 19] [] (ob := (True ∧ True)) (st' := (⟨111, [(0, [], .v (.c (.p (.sl .bool) l))), (1, [], .v (.c (.p (.int .i64) n))), (2, [], .v (.c (.p (.int .i64) i))), (19, [], .v (.c (.p (.sl .bool) l)))], []⟩ : St)) (by kernel_rfl) ⟨trivial, trivial⟩ ?_
  refine awl_callk (p := []) (l := [toV1 (.sl .bool) l]) (cl := []) false [.d (.sl .bool)] [0, 1, 2, 20] [] (fun (ret20v : Int × Int) => gcall (α := Bool) (!(decide ((16 : Int) < (l.length : Int)))) (VC24 l) false (fun (ret28v : Bool) => ((((decide ((16 : Int) < (l.length : Int))) || (!ret28v)) = true → (((decide (ret20v.2 = (0 : Int))) = true → K false) ∧ ((decide (ret20v.2 = (0 : Int))) = false → VC7_k1 n i K))) ∧ (((decide ((16 : Int) < (l.length : Int))) || (!ret28v)) = false → ((0 ≤ (l.length : Int) ∧ 0 < (2 : Int)) ∧ VC25 ((l.length : Int) / (2 : Int)) ret20v.1 (fun (ret38v : (List Bool) × Int) => (((((!decide (ret20v.2 = (0 : Int))) || (!decide (ret38v.2 = (0 : Int)))) || (!decide ((ret38v.1.length : Int) = (l.length : Int)))) = true → K false) ∧ ((((!decide (ret20v.2 = (0 : Int))) || (!decide (ret38v.2 = (0 : Int)))) || (!decide ((ret38v.1.length : Int) = (l.length : Int)))) = false → Loop (σ := Int) (fun s X => VC7_l1 l n i K ret38v s X) (0 : Int))))))))) (fun ret20v => [toV1 (.int .i64) ret20v.1, toV1 (.int .i64) ret20v.2]) (fun ret20v => (⟨111, [(0, [], .v (.c (.p (.sl .bool) l))), (1, [], .v (.c (.p (.int .i64) n))), (2, [], .v (.c (.p (.int .i64) i))), (20, [], .tup [.c (.p (.int .i64) ret20v.1), .c (.p (.int .i64) ret20v.2)])], []⟩ : St)) (by kernel_rfl) rfl (by kernel_rfl) rfl (by kernel_rfl) Try.call23 (by kernel_rfl) (fun ret20v => by kernel_rfl) (fun e => by cases e) (fun hg => link23 l _ h) (fun hg => noF hg) (fun ret20v h => ?_)
  have h : gcall (α := Bool) (!(decide ((16 : Int) < (l.length : Int)))) (VC24 l) false (fun (ret28v : Bool) => ((((decide ((16 : Int) < (l.length : Int))) || (!ret28v)) = true → (((decide (ret20v.2 = (0 : Int))) = true → K false) ∧ ((decide (ret20v.2 = (0 : Int))) = false → VC7_k1 n i K))) ∧ (((decide ((16 : Int) < (l.length : Int))) || (!ret28v)) = false → ((0 ≤ (l.length : Int) ∧ 0 < (2 : Int)) ∧ VC25 ((l.length : Int) / (2 : Int)) ret20v.1 (fun (ret38v : (List Bool) × Int) => (((((!decide (ret20v.2 = (0 : Int))) || (!decide (ret38v.2 = (0 : Int)))) || (!decide ((ret38v.1.length : Int) = (l.length : Int)))) = true → K false) ∧ ((((!decide (ret20v.2 = (0 : Int))) || (!decide (ret38v.2 = (0 : Int)))) || (!decide ((ret38v.1.length : Int) = (l.length : Int)))) = false → Loop (σ := Int) (fun s X => VC7_l1 l n i K ret38v s X) (0 : Int)))))))) := h
  refine awl_runp 5 [0, 1, 2, 7, 8] [] (ob := (True ∧ True ∧ True ∧ True ∧ True ∧ True)) (st' := (⟨111, [(0, [], .v (.c (.p (.sl .bool) l))), (1, [], .v (.c (.p (.int .i64) n))), (2, [], .v (.c (.p (.int .i64) i))), (7, [], .v (.c (.p (.int .i64) ret20v.1))), (8, [], .v (.c (.p (.int .i64) ret20v.2)))], []⟩ : St)) (by kernel_rfl) ⟨trivial, trivial, trivial, trivial, trivial, trivial⟩ ?_
  refine awl_nil ?_
  refine thenQ_n ?_
  refine aw_seq ?_
  refine aw_seq ?_
  refine aw_region ?_
  refine awl_runp 5 [0, 1, 2, 7, 8, 26, 27] [] (ob := (True ∧ True ∧ True ∧ True ∧ ((decide ((16 : Int) < (l.length : Int))) = false → True) ∧ True)) (st' := (⟨111, [(0, [], .v (.c (.p (.sl .bool) l))), (1, [], .v (.c (.p (.int .i64) n))), (2, [], .v (.c (.p (.int .i64) i))), (7, [], .v (.c (.p (.int .i64) ret20v.1))), (8, [], .v (.c (.p (.int .i64) ret20v.2))), (26, [], .v (.c (.p .bool (decide ((16 : Int) < (l.length : Int)))))), (27, [(26, false)], .v (.c (.p (.sl .bool) l)))], []⟩ : St)) (by kernel_rfl) ⟨trivial, trivial, trivial, trivial, (fun _ => trivial), trivial⟩ ?_
  refine awl_callk (p := [(26, false)]) (l := [toV1 (.sl .bool) l]) (cl := []) false [.d (.sl .bool)] [0, 1, 2, 7, 8, 26, 28] [] (fun (ret28v : Bool) => ((((decide ((16 : Int) < (l.length : Int))) || (!ret28v)) = true → (((decide (ret20v.2 = (0 : Int))) = true → K false) ∧ ((decide (ret20v.2 = (0 : Int))) = false → VC7_k1 n i K))) ∧ (((decide ((16 : Int) < (l.length : Int))) || (!ret28v)) = false → ((0 ≤ (l.length : Int) ∧ 0 < (2 : Int)) ∧ VC25 ((l.length : Int) / (2 : Int)) ret20v.1 (fun (ret38v : (List Bool) × Int) => (((((!decide (ret20v.2 = (0 : Int))) || (!decide (ret38v.2 = (0 : Int)))) || (!decide ((ret38v.1.length : Int) = (l.length : Int)))) = true → K false) ∧ ((((!decide (ret20v.2 = (0 : Int))) || (!decide (ret38v.2 = (0 : Int)))) || (!decide ((ret38v.1.length : Int) = (l.length : Int)))) = false → Loop (σ := Int) (fun s X => VC7_l1 l n i K ret38v s X) (0 : Int)))))))) (fun ret28v => [toV1 .bool ret28v]) (fun ret28v => (⟨111, [(0, [], .v (.c (.p (.sl .bool) l))), (1, [], .v (.c (.p (.int .i64) n))), (2, [], .v (.c (.p (.int .i64) i))), (7, [], .v (.c (.p (.int .i64) ret20v.1))), (8, [], .v (.c (.p (.int .i64) ret20v.2))), (26, [], .v (.c (.p .bool (decide ((16 : Int) < (l.length : Int)))))), (28, [(26, false)], .v (.c (.p .bool ret28v)))], []⟩ : St)) (by kernel_rfl) rfl (by kernel_rfl) rfl (by kernel_rfl) Try.call24 (by kernel_rfl) (fun ret28v => by kernel_rfl) (fun e => by cases e) (fun hg => link24 l _ (by have := gcall_T h (show (!(decide ((16 : Int) < (l.length : Int)))) = true from hg); exact this)) (fun hg => ⟨false, by have := gcall_F h (show (!(decide ((16 : Int) < (l.length : Int)))) = false from hg); exact this⟩) (fun ret28v h => ?_)
  have h : ((((decide ((16 : Int) < (l.length : Int))) || (!ret28v)) = true → (((decide (ret20v.2 = (0 : Int))) = true → K false) ∧ ((decide (ret20v.2 = (0 : Int))) = false → VC7_k1 n i K))) ∧ (((decide ((16 : Int) < (l.length : Int))) || (!ret28v)) = false → ((0 ≤ (l.length : Int) ∧ 0 < (2 : Int)) ∧ VC25 ((l.length : Int) / (2 : Int)) ret20v.1 (fun (ret38v : (List Bool) × Int) => (((((!decide (ret20v.2 = (0 : Int))) || (!decide (ret38v.2 = (0 : Int)))) || (!decide ((ret38v.1.length : Int) = (l.length : Int)))) = true → K false) ∧ ((((!decide (ret20v.2 = (0 : Int))) || (!decide (ret38v.2 = (0 : Int)))) || (!decide ((ret38v.1.length : Int) = (l.length : Int)))) = false → Loop (σ := Int) (fun s X => VC7_l1 l n i K ret38v s X) (0 : Int))))))) := h
  refine awl_runp 2 [0, 1, 2, 7, 8, 30] [] (ob := (((decide ((16 : Int) < (l.length : Int))) = false → True) ∧ True ∧ True)) (st' := (⟨111, [(0, [], .v (.c (.p (.sl .bool) l))), (1, [], .v (.c (.p (.int .i64) n))), (2, [], .v (.c (.p (.int .i64) i))), (7, [], .v (.c (.p (.int .i64) ret20v.1))), (8, [], .v (.c (.p (.int .i64) ret20v.2))), (30, [], .v (.c (.p .bool ((decide ((16 : Int) < (l.length : Int))) || (!ret28v)))))], []⟩ : St)) (by kernel_rfl) ⟨(fun _ => trivial), trivial, trivial⟩ ?_
  refine awl_nil ?_
  refine thenQ_n ?_
  refine withJoin (σ := Unit) (fun s => (⟨111, [(1, [], .v (.c (.p (.int .i64) n))), (2, [], .v (.c (.p (.int .i64) i)))], []⟩ : St)) (fun s => VC7_k1 n i K) (fun s h => ?_) (fun rest1 => ?_)
  · have h : VC7_k1 n i K := h
    unfold VC7_k1 at h
    refine thenQ_n ?_
    refine aw_seq ?_
    refine aw_region ?_
    refine awl_runp 2 [1, 2, 70, 71] [] (ob := (True ∧ True ∧ True)) (st' := (⟨111, [(1, [], .v (.c (.p (.int .i64) n))), (2, [], .v (.c (.p (.int .i64) i))), (70, [], .v (.c (.p (.int .i64) n))), (71, [], .v (.c (.p (.int .i64) i)))], []⟩ : St)) (by kernel_rfl) ⟨trivial, trivial, trivial⟩ ?_
    refine awl_callk (p := []) (l := [toV1 (.int .i64) n, toV1 (.int .i64) i]) (cl := []) false [.d (.int .i64), .d (.int .i64)] [1, 2, 72] [] (fun (ret72v : (List Bool) × Int) => (((!decide (ret72v.2 = (0 : Int))) = true → K (decide ((ret72v.1.length : Int) = (0 : Int)))) ∧ ((!decide (ret72v.2 = (0 : Int))) = false → VC18 ret72v.1 (fun (ret82v : Bool × Int) => VC23 ret72v.1 (fun (ret87v : Int × Int) => ((((((decide (ret82v.2 = (0 : Int))) && (decide (ret87v.2 = (0 : Int)))) && ret82v.1) && (decide (ret87v.1 = i))) = true → InR ((2 : Int) * n)) ∧ K (((((decide (ret82v.2 = (0 : Int))) && (decide (ret87v.2 = (0 : Int)))) && ret82v.1) && (decide (ret87v.1 = i))) && (decide ((ret72v.1.length : Int) = ((2 : Int) * n)))))))))) (fun ret72v => [toV1 (.sl .bool) ret72v.1, toV1 (.int .i64) ret72v.2]) (fun ret72v => (⟨111, [(1, [], .v (.c (.p (.int .i64) n))), (2, [], .v (.c (.p (.int .i64) i))), (72, [], .tup [.c (.p (.sl .bool) ret72v.1), .c (.p (.int .i64) ret72v.2)])], []⟩ : St)) (by kernel_rfl) rfl (by kernel_rfl) rfl (by kernel_rfl) Try.call25 (by kernel_rfl) (fun ret72v => by kernel_rfl) (fun e => by cases e) (fun hg => link25 n i _ h) (fun hg => noF hg) (fun ret72v h => ?_)
    have h : (((!decide (ret72v.2 = (0 : Int))) = true → K (decide ((ret72v.1.length : Int) = (0 : Int)))) ∧ ((!decide (ret72v.2 = (0 : Int))) = false → VC18 ret72v.1 (fun (ret82v : Bool × Int) => VC23 ret72v.1 (fun (ret87v : Int × Int) => ((((((decide (ret82v.2 = (0 : Int))) && (decide (ret87v.2 = (0 : Int)))) && ret82v.1) && (decide (ret87v.1 = i))) = true → InR ((2 : Int) * n)) ∧ K (((((decide (ret82v.2 = (0 : Int))) && (decide (ret87v.2 = (0 : Int)))) && ret82v.1) && (decide (ret87v.1 = i))) && (decide ((ret72v.1.length : Int) = ((2 : Int) * n))))))))) := h
    refine awl_runp 5 [1, 2, 12, 13] [] (ob := (True ∧ True ∧ True ∧ True ∧ True ∧ True)) (st' := (⟨111, [(1, [], .v (.c (.p (.int .i64) n))), (2, [], .v (.c (.p (.int .i64) i))), (12, [], .v (.c (.p (.sl .bool) ret72v.1))), (13, [], .v (.c (.p (.int .i64) ret72v.2)))], []⟩ : St)) (by kernel_rfl) ⟨trivial, trivial, trivial, trivial, trivial, trivial⟩ ?_
    refine awl_nil ?_
    refine thenQ_n ?_
    refine aw_seq ?_
    refine aw_seq ?_
    refine aw_region ?_
    refine awl_runp 2 [1, 2, 12, 76] [] (ob := (True ∧ True ∧ True)) (st' := (⟨111, [(1, [], .v (.c (.p (.int .i64) n))), (2, [], .v (.c (.p (.int .i64) i))), (12, [], .v (.c (.p (.sl .bool) ret72v.1))), (76, [], .v (.c (.p .bool (!decide (ret72v.2 = (0 : Int))))))], []⟩ : St)) (by kernel_rfl) ⟨trivial, trivial, trivial⟩ ?_
    refine awl_nil ?_
    refine thenQ_n ?_
    refine aw_cond (b := (!decide (ret72v.2 = (0 : Int)))) (by kernel_rfl) (fun hb => ?_) (fun hb => ?_)
    · have h := h.1 hb
      refine aw_seq ?_
      refine aw_region ?_
      refine awl_runp 4 [6] [] (ob := (True ∧ True ∧ True ∧ True ∧ True)) (st' := (⟨111, [(6, [], .v (.c (.p .bool (decide ((ret72v.1.length : Int) = (0 : Int))))))], []⟩ : St)) (by kernel_rfl) ⟨trivial, trivial, trivial, trivial, trivial⟩ ?_
      refine awl_nil ?_
      refine thenQ_n ?_
      refine aw_ret ?_
      refine thenQ_r ?_
      exact retQ_r (σ := Bool) (R := (fun y => [toV1 .bool y])) (ob := (True ∧ True)) (decide ((ret72v.1.length : Int) = (0 : Int))) (by kernel_rfl) ⟨trivial, trivial⟩ h
    · have h := h.2 hb
      refine aw_skip ?_
      refine thenQ_n ?_
      refine aw_seq ?_
      refine aw_region ?_
      refine awl_runp 1 [1, 2, 12, 81] [] (ob := (True ∧ True)) (st' := (⟨111, [(1, [], .v (.c (.p (.int .i64) n))), (2, [], .v (.c (.p (.int .i64) i))), (12, [], .v (.c (.p (.sl .bool) ret72v.1))), (81, [], .v (.c (.p (.sl .bool) ret72v.1)))], []⟩ : St)) (by kernel_rfl) ⟨trivial, trivial⟩ ?_
      refine awl_callk (p := []) (l := [toV1 (.sl .bool) ret72v.1]) (cl := []) false [.d (.sl .bool)] [1, 2, 12, 82] [] (fun (ret82v : Bool × Int) => VC23 ret72v.1 (fun (ret87v : Int × Int) => ((((((decide (ret82v.2 = (0 : Int))) && (decide (ret87v.2 = (0 : Int)))) && ret82v.1) && (decide (ret87v.1 = i))) = true → InR ((2 : Int) * n)) ∧ K (((((decide (ret82v.2 = (0 : Int))) && (decide (ret87v.2 = (0 : Int)))) && ret82v.1) && (decide (ret87v.1 = i))) && (decide ((ret72v.1.length : Int) = ((2 : Int) * n))))))) (fun ret82v => [toV1 .bool ret82v.1, toV1 (.int .i64) ret82v.2]) (fun ret82v => (⟨111, [(1, [], .v (.c (.p (.int .i64) n))), (2, [], .v (.c (.p (.int .i64) i))), (12, [], .v (.c (.p (.sl .bool) ret72v.1))), (82, [], .tup [.c (.p .bool ret82v.1), .c (.p (.int .i64) ret82v.2)])], []⟩ : St)) (by kernel_rfl) rfl (by kernel_rfl) rfl (by kernel_rfl) Try.call18 (by kernel_rfl) (fun ret82v => by kernel_rfl) (fun e => by cases e) (fun hg => link18 ret72v.1 _ h) (fun hg => noF hg) (fun ret82v h => ?_)
      have h : VC23 ret72v.1 (fun (ret87v : Int × Int) => ((((((decide (ret82v.2 = (0 : Int))) && (decide (ret87v.2 = (0 : Int)))) && ret82v.1) && (decide (ret87v.1 = i))) = true → InR ((2 : Int) * n)) ∧ K (((((decide (ret82v.2 = (0 : Int))) && (decide (ret87v.2 = (0 : Int)))) && ret82v.1) && (decide (ret87v.1 = i))) && (decide ((ret72v.1.length : Int) = ((2 : Int) * n)))))) := h
      refine awl_runp 5 [1, 2, 12, 14, 15] [] (ob := (True ∧ True ∧ True ∧ True ∧ True ∧ True)) (st' := (⟨111, [(1, [], .v (.c (.p (.int .i64) n))), (2, [], .v (.c (.p (.int .i64) i))), (12, [], .v (.c (.p (.sl .bool) ret72v.1))), (14, [], .v (.c (.p .bool ret82v.1))), (15, [], .v (.c (.p (.int .i64) ret82v.2)))], []⟩ : St)) (by kernel_rfl) ⟨trivial, trivial, trivial, trivial, trivial, trivial⟩ ?_
      refine awl_nil ?_
      refine thenQ_n ?_
      refine aw_seq ?_
      refine aw_region ?_
      refine awl_runp 1 [1, 2, 12, 14, 15, 86] [] (ob := (True ∧ True)) (st' := (⟨111, [(1, [], .v (.c (.p (.int .i64) n))), (2, [], .v (.c (.p (.int .i64) i))), (12, [], .v (.c (.p (.sl .bool) ret72v.1))), (14, [], .v (.c (.p .bool ret82v.1))), (15, [], .v (.c (.p (.int .i64) ret82v.2))), (86, [], .v (.c (.p (.sl .bool) ret72v.1)))], []⟩ : St)) (by kernel_rfl) ⟨trivial, trivial⟩ ?_
      refine awl_callk (p := []) (l := [toV1 (.sl .bool) ret72v.1]) (cl := []) false [.d (.sl .bool)] [1, 2, 12, 14, 15, 87] [] (fun (ret87v : Int × Int) => ((((((decide (ret82v.2 = (0 : Int))) && (decide (ret87v.2 = (0 : Int)))) && ret82v.1) && (decide (ret87v.1 = i))) = true → InR ((2 : Int) * n)) ∧ K (((((decide (ret82v.2 = (0 : Int))) && (decide (ret87v.2 = (0 : Int)))) && ret82v.1) && (decide (ret87v.1 = i))) && (decide ((ret72v.1.length : Int) = ((2 : Int) * n)))))) (fun ret87v => [toV1 (.int .i64) ret87v.1, toV1 (.int .i64) ret87v.2]) (fun ret87v => (⟨111, [(1, [], .v (.c (.p (.int .i64) n))), (2, [], .v (.c (.p (.int .i64) i))), (12, [], .v (.c (.p (.sl .bool) ret72v.1))), (14, [], .v (.c (.p .bool ret82v.1))), (15, [], .v (.c (.p (.int .i64) ret82v.2))), (87, [], .tup [.c (.p (.int .i64) ret87v.1), .c (.p (.int .i64) ret87v.2)])], []⟩ : St)) (by kernel_rfl) rfl (by kernel_rfl) rfl (by kernel_rfl) Try.call23 (by kernel_rfl) (fun ret87v => by kernel_rfl) (fun e => by cases e) (fun hg => link23 ret72v.1 _ h) (fun hg => noF hg) (fun ret87v h => ?_)
      have h : ((((((decide (ret82v.2 = (0 : Int))) && (decide (ret87v.2 = (0 : Int)))) && ret82v.1) && (decide (ret87v.1 = i))) = true → InR ((2 : Int) * n)) ∧ K (((((decide (ret82v.2 = (0 : Int))) && (decide (ret87v.2 = (0 : Int)))) && ret82v.1) && (decide (ret87v.1 = i))) && (decide ((ret72v.1.length : Int) = ((2 : Int) * n))))) := h
      refine awl_runp 5 [1, 2, 12, 14, 15, 16, 17] [] (ob := (True ∧ True ∧ True ∧ True ∧ True ∧ True)) (st' := (⟨111, [(1, [], .v (.c (.p (.int .i64) n))), (2, [], .v (.c (.p (.int .i64) i))), (12, [], .v (.c (.p (.sl .bool) ret72v.1))), (14, [], .v (.c (.p .bool ret82v.1))), (15, [], .v (.c (.p (.int .i64) ret82v.2))), (16, [], .v (.c (.p (.int .i64) ret87v.1))), (17, [], .v (.c (.p (.int .i64) ret87v.2)))], []⟩ : St)) (by kernel_rfl) ⟨trivial, trivial, trivial, trivial, trivial, trivial⟩ ?_
      refine awl_nil ?_
      refine thenQ_n ?_
      refine aw_seq ?_
      refine aw_region ?_
      obtain ⟨o1, h⟩ := h
      refine awl_runp 22 [6] [] (ob := (True ∧ True ∧ True ∧ ((decide (ret82v.2 = (0 : Int))) = true → True) ∧ ((decide (ret82v.2 = (0 : Int))) = true → True) ∧ True ∧ True ∧ (((decide (ret82v.2 = (0 : Int))) && (decide (ret87v.2 = (0 : Int)))) = true → True) ∧ True ∧ True ∧ ((((decide (ret82v.2 = (0 : Int))) && (decide (ret87v.2 = (0 : Int)))) && ret82v.1) = true → True) ∧ ((((decide (ret82v.2 = (0 : Int))) && (decide (ret87v.2 = (0 : Int)))) && ret82v.1) = true → True) ∧ ((((decide (ret82v.2 = (0 : Int))) && (decide (ret87v.2 = (0 : Int)))) && ret82v.1) = true → True) ∧ True ∧ True ∧ (((((decide (ret82v.2 = (0 : Int))) && (decide (ret87v.2 = (0 : Int)))) && ret82v.1) && (decide (ret87v.1 = i))) = true → True) ∧ (((((decide (ret82v.2 = (0 : Int))) && (decide (ret87v.2 = (0 : Int)))) && ret82v.1) && (decide (ret87v.1 = i))) = true → True) ∧ (((((decide (ret82v.2 = (0 : Int))) && (decide (ret87v.2 = (0 : Int)))) && ret82v.1) && (decide (ret87v.1 = i))) = true → True) ∧ (((((decide (ret82v.2 = (0 : Int))) && (decide (ret87v.2 = (0 : Int)))) && ret82v.1) && (decide (ret87v.1 = i))) = true → InR ((2 : Int) * n)) ∧ (((((decide (ret82v.2 = (0 : Int))) && (decide (ret87v.2 = (0 : Int)))) && ret82v.1) && (decide (ret87v.1 = i))) = true → True) ∧ True ∧ True ∧ True)) (st' := (⟨111, [(6, [], .v (.c (.p .bool (((((decide (ret82v.2 = (0 : Int))) && (decide (ret87v.2 = (0 : Int)))) && ret82v.1) && (decide (ret87v.1 = i))) && (decide ((ret72v.1.length : Int) = ((2 : Int) * n)))))))], []⟩ : St)) (by kernel_rfl) ⟨trivial, trivial, trivial, (fun _ => trivial), (fun _ => trivial), trivial, trivial, (fun _ => trivial), trivial, trivial, (fun _ => trivial), (fun _ => trivial), (fun _ => trivial), trivial, trivial, (fun _ => trivial), (fun _ => trivial), (fun _ => trivial), o1, (fun _ => trivial), trivial, trivial, trivial⟩ ?_
      refine awl_nil ?_
      refine thenQ_n ?_
      refine aw_ret ?_
      exact retQ_r (σ := Bool) (R := (fun y => [toV1 .bool y])) (ob := (True ∧ True)) (((((decide (ret82v.2 = (0 : Int))) && (decide (ret87v.2 = (0 : Int)))) && ret82v.1) && (decide (ret87v.1 = i))) && (decide ((ret72v.1.length : Int) = ((2 : Int) * n)))) (by kernel_rfl) ⟨trivial, trivial⟩ h
  · refine aw_cond (b := ((decide ((16 : Int) < (l.length : Int))) || (!ret28v))) (by kernel_rfl) (fun hb => ?_) (fun hb => ?_)
    · have h := h.1 hb
      refine aw_seq ?_
      refine aw_region ?_
      refine awl_runp 2 [1, 2, 32] [] (ob := (True ∧ True ∧ True)) (st' := (⟨111, [(1, [], .v (.c (.p (.int .i64) n))), (2, [], .v (.c (.p (.int .i64) i))), (32, [], .v (.c (.p .bool (decide (ret20v.2 = (0 : Int))))))], []⟩ : St)) (by kernel_rfl) ⟨trivial, trivial, trivial⟩ ?_
      refine awl_nil ?_
      refine thenQ_n ?_
      refine aw_cond (b := (decide (ret20v.2 = (0 : Int)))) (by kernel_rfl) (fun hb => ?_) (fun hb => ?_)
      · have h := h.1 hb
        refine aw_seq ?_
        refine aw_region ?_
        refine awl_runp 1 [6] [] (ob := (True ∧ True)) (st' := (⟨111, [(6, [], .v (.c (.p .bool false)))], []⟩ : St)) (by kernel_rfl) ⟨trivial, trivial⟩ ?_
        refine awl_nil ?_
        refine thenQ_n ?_
        refine aw_ret ?_
        refine thenQ_r ?_
        exact retQ_r (σ := Bool) (R := (fun y => [toV1 .bool y])) (ob := (True ∧ True)) false (by kernel_rfl) ⟨trivial, trivial⟩ h
      · have h := h.2 hb
        refine aw_conv [.prune [1, 2] []] (st' := (⟨111, [(1, [], .v (.c (.p (.int .i64) n))), (2, [], .v (.c (.p (.int .i64) i)))], []⟩ : St)) (by kernel_rfl) ?_
        refine aw_skip ?_
        exact rest1 () h
    · have h := h.2 hb
      refine aw_seq ?_
      refine aw_region ?_
      obtain ⟨o1, h⟩ := h
      refine awl_runp 4 [0, 1, 2, 8, 36, 37] [] (ob := (True ∧ True ∧ (0 ≤ (l.length : Int) ∧ 0 < (2 : Int)) ∧ True ∧ True)) (st' := (⟨111, [(0, [], .v (.c (.p (.sl .bool) l))), (1, [], .v (.c (.p (.int .i64) n))), (2, [], .v (.c (.p (.int .i64) i))), (8, [], .v (.c (.p (.int .i64) ret20v.2))), (36, [], .v (.c (.p (.int .i64) ((l.length : Int) / (2 : Int))))), (37, [], .v (.c (.p (.int .i64) ret20v.1)))], []⟩ : St)) (by kernel_rfl) ⟨trivial, trivial, o1, trivial, trivial⟩ ?_
      refine awl_callk (p := []) (l := [toV1 (.int .i64) ((l.length : Int) / (2 : Int)), toV1 (.int .i64) ret20v.1]) (cl := []) false [.d (.int .i64), .d (.int .i64)] [0, 1, 2, 8, 38] [] (fun (ret38v : (List Bool) × Int) => (((((!decide (ret20v.2 = (0 : Int))) || (!decide (ret38v.2 = (0 : Int)))) || (!decide ((ret38v.1.length : Int) = (l.length : Int)))) = true → K false) ∧ ((((!decide (ret20v.2 = (0 : Int))) || (!decide (ret38v.2 = (0 : Int)))) || (!decide ((ret38v.1.length : Int) = (l.length : Int)))) = false → Loop (σ := Int) (fun s X => VC7_l1 l n i K ret38v s X) (0 : Int)))) (fun ret38v => [toV1 (.sl .bool) ret38v.1, toV1 (.int .i64) ret38v.2]) (fun ret38v => (⟨111, [(0, [], .v (.c (.p (.sl .bool) l))), (1, [], .v (.c (.p (.int .i64) n))), (2, [], .v (.c (.p (.int .i64) i))), (8, [], .v (.c (.p (.int .i64) ret20v.2))), (38, [], .tup [.c (.p (.sl .bool) ret38v.1), .c (.p (.int .i64) ret38v.2)])], []⟩ : St)) (by kernel_rfl) rfl (by kernel_rfl) rfl (by kernel_rfl) Try.call25 (by kernel_rfl) (fun ret38v => by kernel_rfl) (fun e => by cases e) (fun hg => link25 ((l.length : Int) / (2 : Int)) ret20v.1 _ h) (fun hg => noF hg) (fun ret38v h => ?_)
      have h : (((((!decide (ret20v.2 = (0 : Int))) || (!decide (ret38v.2 = (0 : Int)))) || (!decide ((ret38v.1.length : Int) = (l.length : Int)))) = true → K false) ∧ ((((!decide (ret20v.2 = (0 : Int))) || (!decide (ret38v.2 = (0 : Int)))) || (!decide ((ret38v.1.length : Int) = (l.length : Int)))) = false → Loop (σ := Int) (fun s X => VC7_l1 l n i K ret38v s X) (0 : Int))) := h
      refine awl_runp 5 [0, 1, 2, 8, 9, 10] [] (ob := (True ∧ True ∧ True ∧ True ∧ True ∧ True)) (st' := (⟨111, [(0, [], .v (.c (.p (.sl .bool) l))), (1, [], .v (.c (.p (.int .i64) n))), (2, [], .v (.c (.p (.int .i64) i))), (8, [], .v (.c (.p (.int .i64) ret20v.2))), (9, [], .v (.c (.p (.sl .bool) ret38v.1))), (10, [], .v (.c (.p (.int .i64) ret38v.2)))], []⟩ : St)) (by kernel_rfl) ⟨trivial, trivial, trivial, trivial, trivial, trivial⟩ ?_
      refine awl_nil ?_
      refine thenQ_n ?_
      refine aw_seq ?_
      refine aw_seq ?_
      refine aw_region ?_
      refine awl_runp 13 [0, 1, 2, 9, 53] [] (ob := (True ∧ True ∧ True ∧ ((!decide (ret20v.2 = (0 : Int))) = false → True) ∧ ((!decide (ret20v.2 = (0 : Int))) = false → True) ∧ True ∧ True ∧ (((!decide (ret20v.2 = (0 : Int))) || (!decide (ret38v.2 = (0 : Int)))) = false → True) ∧ (((!decide (ret20v.2 = (0 : Int))) || (!decide (ret38v.2 = (0 : Int)))) = false → True) ∧ (((!decide (ret20v.2 = (0 : Int))) || (!decide (ret38v.2 = (0 : Int)))) = false → True) ∧ (((!decide (ret20v.2 = (0 : Int))) || (!decide (ret38v.2 = (0 : Int)))) = false → True) ∧ (((!decide (ret20v.2 = (0 : Int))) || (!decide (ret38v.2 = (0 : Int)))) = false → True) ∧ True ∧ True)) (st' := (⟨111, [(0, [], .v (.c (.p (.sl .bool) l))), (1, [], .v (.c (.p (.int .i64) n))), (2, [], .v (.c (.p (.int .i64) i))), (9, [], .v (.c (.p (.sl .bool) ret38v.1))), (53, [], .v (.c (.p .bool (((!decide (ret20v.2 = (0 : Int))) || (!decide (ret38v.2 = (0 : Int)))) || (!decide ((ret38v.1.length : Int) = (l.length : Int)))))))], []⟩ : St)) (by kernel_rfl) ⟨trivial, trivial, trivial, (fun _ => trivial), (fun _ => trivial), trivial, trivial, (fun _ => trivial), (fun _ => trivial), (fun _ => trivial), (fun _ => trivial), (fun _ => trivial), trivial, trivial⟩ ?_
      refine awl_nil ?_
      refine thenQ_n ?_
      refine aw_cond (b := (((!decide (ret20v.2 = (0 : Int))) || (!decide (ret38v.2 = (0 : Int)))) || (!decide ((ret38v.1.length : Int) = (l.length : Int))))) (by kernel_rfl) (fun hb => ?_) (fun hb => ?_)
      · have h := h.1 hb
        refine aw_seq ?_
        refine aw_region ?_
        refine awl_runp 1 [6] [] (ob := (True ∧ True)) (st' := (⟨111, [(6, [], .v (.c (.p .bool false)))], []⟩ : St)) (by kernel_rfl) ⟨trivial, trivial⟩ ?_
        refine awl_nil ?_
        refine thenQ_n ?_
        refine aw_ret ?_
        refine thenQ_r ?_
        refine thenQ_r ?_
        exact retQ_r (σ := Bool) (R := (fun y => [toV1 .bool y])) (ob := (True ∧ True)) false (by kernel_rfl) ⟨trivial, trivial⟩ h
      · have h := h.2 hb
        refine aw_skip ?_
        refine thenQ_n ?_
        refine aw_seq ?_
        refine aw_region ?_
        refine awl_runp 1 [0, 1, 2, 9, 11] [] (ob := (True ∧ True)) (st' := (⟨111, [(0, [], .v (.c (.p (.sl .bool) l))), (1, [], .v (.c (.p (.int .i64) n))), (2, [], .v (.c (.p (.int .i64) i))), (9, [], .v (.c (.p (.sl .bool) ret38v.1))), (11, [], .v (.c (.p (.int .i64) (0 : Int))))], []⟩ : St)) (by kernel_rfl) ⟨trivial, trivial⟩ ?_
        refine awl_nil ?_
        refine thenQ_n ?_
        refine withJoin (σ := Unit) (fun s => (⟨111, [(1, [], .v (.c (.p (.int .i64) n))), (2, [], .v (.c (.p (.int .i64) i)))], []⟩ : St)) (fun s => VC7_k2 n i K) (fun s h => ?_) (fun rest2 => ?_)
        · have h : VC7_k2 n i K := h
          unfold VC7_k2 at h
          exact rest1 () h
        · refine aw_block ?_
          refine aw_loop (σ := Int) (fun s => (⟨111, [(0, [], .v (.c (.p (.sl .bool) l))), (1, [], .v (.c (.p (.int .i64) n))), (2, [], .v (.c (.p (.int .i64) i))), (9, [], .v (.c (.p (.sl .bool) ret38v.1))), (11, [], .v (.c (.p (.int .i64) s)))], []⟩ : St)) (fun s X => VC7_l1 l n i K ret38v s X) (s0 := (0 : Int)) (fun j X1 h => ?_) h
          have h : VC7_l1 l n i K ret38v j X1 := h
          unfold VC7_l1 at h
          refine aw_seq ?_
          refine aw_seq ?_
          refine aw_region ?_
          refine awl_runp 4 [0, 1, 2, 9, 11, 57] [] (ob := (True ∧ True ∧ True ∧ True ∧ True)) (st' := (⟨111, [(0, [], .v (.c (.p (.sl .bool) l))), (1, [], .v (.c (.p (.int .i64) n))), (2, [], .v (.c (.p (.int .i64) i))), (9, [], .v (.c (.p (.sl .bool) ret38v.1))), (11, [], .v (.c (.p (.int .i64) j))), (57, [], .v (.c (.p .bool (decide (j < (l.length : Int))))))], []⟩ : St)) (by kernel_rfl) ⟨trivial, trivial, trivial, trivial, trivial⟩ ?_
          refine awl_nil ?_
          refine thenQ_n ?_
          refine aw_cond (b := (decide (j < (l.length : Int)))) (by kernel_rfl) (fun hb => ?_) (fun hb => ?_)
          · have h := h.1 hb
            refine aw_skip ?_
            refine thenQ_n ?_
            refine aw_seq ?_
            refine aw_block ?_
            refine aw_seq ?_
            refine awd_begin [] (by kernel_rfl) ?_
            obtain ⟨o1, o2, h⟩ := h
            refine awd_runp (by kernel_rfl) [0, 1, 2, 3, 4, 5, 6, 7, 8] [0, 1, 2, 9, 11, 68] [] (ob := (True ∧ True ∧ inIdx j l.length ∧ True ∧ True ∧ True ∧ inIdx j ret38v.1.length ∧ True ∧ True ∧ True)) (done' := [8, 7, 6, 5, 4, 3, 2, 1, 0]) (st' := (⟨111, [(0, [], .v (.c (.p (.sl .bool) l))), (1, [], .v (.c (.p (.int .i64) n))), (2, [], .v (.c (.p (.int .i64) i))), (9, [], .v (.c (.p (.sl .bool) ret38v.1))), (11, [], .v (.c (.p (.int .i64) j))), (68, [], .v (.c (.p .bool ((l.getD (j).toNat false) != (ret38v.1.getD (j).toNat false)))))], []⟩ : St)) (by kernel_rfl) ⟨trivial, trivial, o1, trivial, trivial, trivial, o2, trivial, trivial, trivial⟩ ?_
            refine awd_done (by kernel_rfl) ?_
            refine thenQ_n ?_
            refine aw_cond (b := ((l.getD (j).toNat false) != (ret38v.1.getD (j).toNat false))) (by kernel_rfl) (fun hb => ?_) (fun hb => ?_)
            · have h := h.1 hb
              refine aw_seq ?_
              refine aw_region ?_
              refine awl_runp 1 [6] [] (ob := (True ∧ True)) (st' := (⟨111, [(6, [], .v (.c (.p .bool false)))], []⟩ : St)) (by kernel_rfl) ⟨trivial, trivial⟩ ?_
              refine awl_nil ?_
              refine thenQ_n ?_
              refine aw_ret ?_
              refine blockQ_r ?_
              refine thenQ_r ?_
              refine thenQ_r ?_
              refine blockQ_r ?_
              refine thenQ_r ?_
              exact retQ_r (σ := Bool) (R := (fun y => [toV1 .bool y])) (ob := (True ∧ True)) false (by kernel_rfl) ⟨trivial, trivial⟩ h
            · have h := h.2 hb
              refine aw_skip ?_
              refine blockQ_n ?_
              refine thenQ_n ?_
              refine aw_region ?_
              obtain ⟨o1, h⟩ := h
              refine awl_runp 3 [0, 1, 2, 9, 11] [] (ob := (True ∧ InR (j + (1 : Int)) ∧ True ∧ True)) (st' := (⟨111, [(0, [], .v (.c (.p (.sl .bool) l))), (1, [], .v (.c (.p (.int .i64) n))), (2, [], .v (.c (.p (.int .i64) i))), (9, [], .v (.c (.p (.sl .bool) ret38v.1))), (11, [], .v (.c (.p (.int .i64) (j + (1 : Int)))))], []⟩ : St)) (by kernel_rfl) ⟨trivial, o1, trivial, trivial⟩ ?_
              refine awl_nil ?_
              exact thenQ_n ⟨(j + (1 : Int)), rfl, h⟩
          · have h := h.2 hb
            refine aw_conv [.prune [1, 2] []] (st' := (⟨111, [(1, [], .v (.c (.p (.int .i64) n))), (2, [], .v (.c (.p (.int .i64) i)))], []⟩ : St)) (by kernel_rfl) ?_
            refine aw_exit ?_
            refine thenQ_x ?_
            refine thenQ_x ?_
            refine blockQ_hit ?_
            exact rest2 () h

end Dec
