/-
  Printed by dec2.py: of each function its plain demand, and that the demand gives the contract.
-/
import Derived.Test.YtfamoglamihdfaaProg
import Derived.Test.YtfamoglamihdfaaDecT
import Derived.Test.YtfamoglamihdfaaDecX
set_option linter.unusedVariables false
set_option linter.unusedSimpArgs false
set_option maxRecDepth 100000
namespace Dec
open Go Go.RowKit Go.Proofs

-- coppicer/bracket.height
def VC43 (openv : Bool) (K : Int → Prop) : Prop :=
  ((openv = true → K (1 : Int)) ∧ (openv = false → K (-1 : Int)))

set_option maxHeartbeats 4000000 in
theorem link43 (openv : Bool) (K : Int → Prop) (h : VC43 openv K) : ACalls Try.prog 43 [toV1 .bool openv] (fun res => ∃ y, res = (fun y => [toV1 (.int .i64) y]) y ∧ K y) := by
  refine acalls_of_aw [(.int .i64)] [.t 2] Try.func43 rfl rfl rfl ?_
  unfold VC43 at h
  refine aw_seq ?_
  refine aw_region ?_
  refine awl_runp 1 [0] [] (ob := (True ∧ True)) (st' := (⟨4, [(0, [], .v (.c (.p .bool openv)))], []⟩ : St)) (by kernel_rfl) ⟨trivial, trivial⟩ ?_
  refine awl_nil ?_
  refine thenQ_n ?_
  refine aw_seq ?_
  refine aw_seq ?_
  refine aw_region ?_
  refine awl_runp 1 [3] [] (ob := (True ∧ True)) (st' := (⟨4, [(3, [], .v (.c (.p .bool openv)))], []⟩ : St)) (by kernel_rfl) ⟨trivial, trivial⟩ ?_
  refine awl_nil ?_
  refine thenQ_n ?_
  refine aw_cond (b := openv) (by kernel_rfl) (fun hb => ?_) (fun hb => ?_)
  · have h := h.1 hb
    refine aw_seq ?_
    refine aw_region ?_
    refine awl_runp 1 [2] [] (ob := (True ∧ True)) (st' := (⟨4, [(2, [], .v (.c (.p (.int .i64) (1 : Int))))], []⟩ : St)) (by kernel_rfl) ⟨trivial, trivial⟩ ?_
    refine awl_nil ?_
    refine thenQ_n ?_
    refine aw_ret ?_
    refine thenQ_r ?_
    exact retQ_r (σ := Int) (R := (fun y => [toV1 (.int .i64) y])) (ob := (True ∧ True)) (1 : Int) (by kernel_rfl) ⟨trivial, trivial⟩ h
  · have h := h.2 hb
    refine aw_skip ?_
    refine thenQ_n ?_
    refine aw_seq ?_
    refine aw_region ?_
    refine awl_runp 1 [2] [] (ob := (True ∧ True)) (st' := (⟨4, [(2, [], .v (.c (.p (.int .i64) (-1 : Int))))], []⟩ : St)) (by kernel_rfl) ⟨trivial, trivial⟩ ?_
    refine awl_nil ?_
    refine thenQ_n ?_
    refine aw_ret ?_
    exact retQ_r (σ := Int) (R := (fun y => [toV1 (.int .i64) y])) (ob := (True ∧ True)) (-1 : Int) (by kernel_rfl) ⟨trivial, trivial⟩ h

-- coppicer/bracket.balanced
def VC42_k1 (K : Bool → Prop) (n : Int) : Prop :=
  K (decide (n = (0 : Int)))

def VC42_l1 (l : (List Bool)) (K : Bool → Prop) (n : Int) (v8 : Int) (X1 : Int × Int → Prop) : Prop :=
  (((decide (v8 < (l.length : Int))) = true → (inIdx v8 l.length ∧ VC43 (l.getD (v8).toNat false) (fun (ret14v : Int) => (InR (n + ret14v) ∧ (((decide ((n + ret14v) < (0 : Int))) = true → K false) ∧ ((decide ((n + ret14v) < (0 : Int))) = false → (InR (v8 + (1 : Int)) ∧ X1 ((n + ret14v), (v8 + (1 : Int)))))))))) ∧ ((decide (v8 < (l.length : Int))) = false → VC42_k1 K n))

def VC42 (l : (List Bool)) (K : Bool → Prop) : Prop :=
  Loop (σ := Int × Int) (fun s X => VC42_l1 l K s.1 s.2 X) ((0 : Int), (0 : Int))

set_option maxHeartbeats 4000000 in
theorem link42 (l : (List Bool)) (K : Bool → Prop) (h : VC42 l K) : ACalls Try.prog 42 [toV1 (.sl .bool) l] (fun res => ∃ y, res = (fun y => [toV1 .bool y]) y ∧ K y) := by
  refine acalls_of_aw [.bool] [.t 2] Try.func42 rfl rfl rfl ?_
  unfold VC42 at h
  refine aw_seq ?_
  refine aw_region ?_
  refine awl_runp 1 [0] [] (ob := (True ∧ True)) (st' := (⟨21, [(0, [], .v (.c (.p (.sl .bool) l)))], []⟩ : St)) (by kernel_rfl) ⟨trivial, trivial⟩ ?_
  refine awl_nil ?_
  refine thenQ_n ?_
  refine aw_seq ?_
  refine aw_region ?_
  refine awl_runp 1 [0, 3] [] (ob := (True ∧ True)) (st' := (⟨21, [(0, [], .v (.c (.p (.sl .bool) l))), (3, [], .v (.c (.p (.int .i64) (0 : Int))))], []⟩ : St)) (by kernel_rfl) ⟨trivial, trivial⟩ ?_
  refine awl_nil ?_
  refine thenQ_n ?_
  refine aw_seq ?_
  refine aw_seq ?_
  refine aw_region ?_
  refine awl_runp 3 [3, 6, 7, 8] [] (ob := (True ∧ True ∧ True ∧ True)) (st' := (⟨21, [(3, [], .v (.c (.p (.int .i64) (0 : Int)))), (6, [], .v (.c (.p (.sl .bool) l))), (7, [], .v (.c (.p (.int .i64) (l.length : Int)))), (8, [], .v (.c (.p (.int .i64) (0 : Int))))], []⟩ : St)) (by kernel_rfl) ⟨trivial, trivial, trivial, trivial⟩ ?_
  refine awl_nil ?_
  refine thenQ_n ?_
  refine withJoin (σ := Int) (fun s => (⟨21, [(3, [], .v (.c (.p (.int .i64) s)))], []⟩ : St)) (fun s => VC42_k1 K s) (fun n h => ?_) (fun rest1 => ?_)
  · have h : VC42_k1 K n := h
    unfold VC42_k1 at h
    refine thenQ_n ?_
    refine aw_seq ?_
    refine aw_region ?_
    refine awl_runp 3 [2] [] (ob := (True ∧ True ∧ True ∧ True)) (st' := (⟨21, [(2, [], .v (.c (.p .bool (decide (n = (0 : Int))))))], []⟩ : St)) (by kernel_rfl) ⟨trivial, trivial, trivial, trivial⟩ ?_
    refine awl_nil ?_
    refine thenQ_n ?_
    refine aw_ret ?_
    exact retQ_r (σ := Bool) (R := (fun y => [toV1 .bool y])) (ob := (True ∧ True)) (decide (n = (0 : Int))) (by kernel_rfl) ⟨trivial, trivial⟩ h
  · refine aw_block ?_
    refine aw_loop (σ := Int × Int) (fun s => (⟨21, [(3, [], .v (.c (.p (.int .i64) s.1))), (6, [], .v (.c (.p (.sl .bool) l))), (7, [], .v (.c (.p (.int .i64) (l.length : Int)))), (8, [], .v (.c (.p (.int .i64) s.2)))], []⟩ : St)) (fun s X => VC42_l1 l K s.1 s.2 X) (s0 := ((0 : Int), (0 : Int))) (fun s X1 h => ?_) h
    obtain ⟨n, v8⟩ := s
    have h : VC42_l1 l K n v8 X1 := h
    unfold VC42_l1 at h
    refine aw_seq ?_
    refine aw_region ?_
    refine awl_runp 1 [3, 6, 7, 8, 9] [] (ob := (True ∧ True)) (st' := (⟨21, [(3, [], .v (.c (.p (.int .i64) n))), (6, [], .v (.c (.p (.sl .bool) l))), (7, [], .v (.c (.p (.int .i64) (l.length : Int)))), (8, [], .v (.c (.p (.int .i64) v8))), (9, [], .v (.c (.p .bool (decide (v8 < (l.length : Int))))))], []⟩ : St)) (by kernel_rfl) ⟨trivial, trivial⟩ ?_
    refine awl_nil ?_
    refine thenQ_n ?_
    refine aw_seq ?_
    refine aw_cond (b := (decide (v8 < (l.length : Int)))) (by kernel_rfl) (fun hb => ?_) (fun hb => ?_)
    · have h := h.1 hb
      refine aw_skip ?_
      refine thenQ_n ?_
      refine aw_seq ?_
      refine aw_block ?_
      refine aw_seq ?_
      refine aw_region ?_
      obtain ⟨o1, h⟩ := h
      refine awl_runp 3 [3, 5, 6, 7, 8] [] (ob := (inIdx v8 l.length ∧ True ∧ True ∧ True)) (st' := (⟨21, [(3, [], .v (.c (.p (.int .i64) n))), (5, [], .v (.c (.p .bool (l.getD (v8).toNat false)))), (6, [], .v (.c (.p (.sl .bool) l))), (7, [], .v (.c (.p (.int .i64) (l.length : Int)))), (8, [], .v (.c (.p (.int .i64) v8)))], []⟩ : St)) (by kernel_rfl) ⟨o1, trivial, trivial, trivial⟩ ?_
      refine awl_nil ?_
      refine thenQ_n ?_
      refine aw_seq ?_
      refine aw_region ?_
      refine awl_runp 2 [6, 7, 8, 12, 13] [] (ob := (True ∧ True ∧ True)) (st' := (⟨21, [(6, [], .v (.c (.p (.sl .bool) l))), (7, [], .v (.c (.p (.int .i64) (l.length : Int)))), (8, [], .v (.c (.p (.int .i64) v8))), (12, [], .v (.c (.p (.int .i64) n))), (13, [], .v (.c (.p .bool (l.getD (v8).toNat false))))], []⟩ : St)) (by kernel_rfl) ⟨trivial, trivial, trivial⟩ ?_
      refine awl_callk (p := []) (l := [toV1 .bool (l.getD (v8).toNat false)]) (cl := []) false [.d .bool] [6, 7, 8, 12, 14] [] (fun (ret14v : Int) => (InR (n + ret14v) ∧ (((decide ((n + ret14v) < (0 : Int))) = true → K false) ∧ ((decide ((n + ret14v) < (0 : Int))) = false → (InR (v8 + (1 : Int)) ∧ X1 ((n + ret14v), (v8 + (1 : Int)))))))) (fun ret14v => [toV1 (.int .i64) ret14v]) (fun ret14v => (⟨21, [(6, [], .v (.c (.p (.sl .bool) l))), (7, [], .v (.c (.p (.int .i64) (l.length : Int)))), (8, [], .v (.c (.p (.int .i64) v8))), (12, [], .v (.c (.p (.int .i64) n))), (14, [], .v (.c (.p (.int .i64) ret14v)))], []⟩ : St)) (by kernel_rfl) rfl (by kernel_rfl) rfl (by kernel_rfl) Try.call43 (by kernel_rfl) (fun ret14v => by kernel_rfl) (fun e => by cases e) (fun hg => link43 (l.getD (v8).toNat false) _ h) (fun hg => noF hg) (fun ret14v h => ?_)
      have h : (InR (n + ret14v) ∧ (((decide ((n + ret14v) < (0 : Int))) = true → K false) ∧ ((decide ((n + ret14v) < (0 : Int))) = false → (InR (v8 + (1 : Int)) ∧ X1 ((n + ret14v), (v8 + (1 : Int))))))) := h
      obtain ⟨o1, h⟩ := h
      refine awl_runp 2 [3, 6, 7, 8] [] (ob := (InR (n + ret14v) ∧ True ∧ True)) (st' := (⟨21, [(3, [], .v (.c (.p (.int .i64) (n + ret14v)))), (6, [], .v (.c (.p (.sl .bool) l))), (7, [], .v (.c (.p (.int .i64) (l.length : Int)))), (8, [], .v (.c (.p (.int .i64) v8)))], []⟩ : St)) (by kernel_rfl) ⟨o1, trivial, trivial⟩ ?_
      refine awl_nil ?_
      refine thenQ_n ?_
      refine aw_seq ?_
      refine aw_region ?_
      refine awl_runp 2 [3, 6, 7, 8, 17] [] (ob := (True ∧ True ∧ True)) (st' := (⟨21, [(3, [], .v (.c (.p (.int .i64) (n + ret14v)))), (6, [], .v (.c (.p (.sl .bool) l))), (7, [], .v (.c (.p (.int .i64) (l.length : Int)))), (8, [], .v (.c (.p (.int .i64) v8))), (17, [], .v (.c (.p .bool (decide ((n + ret14v) < (0 : Int))))))], []⟩ : St)) (by kernel_rfl) ⟨trivial, trivial, trivial⟩ ?_
      refine awl_nil ?_
      refine thenQ_n ?_
      refine aw_cond (b := (decide ((n + ret14v) < (0 : Int)))) (by kernel_rfl) (fun hb => ?_) (fun hb => ?_)
      · have h := h.1 hb
        refine aw_seq ?_
        refine aw_region ?_
        refine awl_runp 1 [2] [] (ob := (True ∧ True)) (st' := (⟨21, [(2, [], .v (.c (.p .bool false)))], []⟩ : St)) (by kernel_rfl) ⟨trivial, trivial⟩ ?_
        refine awl_nil ?_
        refine thenQ_n ?_
        refine aw_ret ?_
        refine blockQ_r ?_
        refine thenQ_r ?_
        refine thenQ_r ?_
        refine blockQ_r ?_
        refine thenQ_r ?_
        exact retQ_r (σ := Bool) (R := (fun y => [toV1 .bool y])) (ob := (True ∧ True)) false (by kernel_rfl) ⟨trivial, trivial⟩ h
      · have h := h.2 hb
        refine aw_skip ?_
        refine blockQ_n ?_
        refine thenQ_n ?_
        refine aw_region ?_
        obtain ⟨o1, h⟩ := h
        refine awl_runp 2 [3, 6, 7, 8] [] (ob := (InR (v8 + (1 : Int)) ∧ True ∧ True)) (st' := (⟨21, [(3, [], .v (.c (.p (.int .i64) (n + ret14v)))), (6, [], .v (.c (.p (.sl .bool) l))), (7, [], .v (.c (.p (.int .i64) (l.length : Int)))), (8, [], .v (.c (.p (.int .i64) (v8 + (1 : Int)))))], []⟩ : St)) (by kernel_rfl) ⟨o1, trivial, trivial⟩ ?_
        refine awl_nil ?_
        exact thenQ_n ⟨((n + ret14v), (v8 + (1 : Int))), rfl, h⟩
    · have h := h.2 hb
      refine aw_conv [.prune [3] []] (st' := (⟨21, [(3, [], .v (.c (.p (.int .i64) n)))], []⟩ : St)) (by kernel_rfl) ?_
      refine aw_exit ?_
      refine thenQ_x ?_
      refine thenQ_x ?_
      refine blockQ_hit ?_
      exact rest1 n h

-- coppicer/bracket.Pairs
def VC17_k1 (K : (List Int) × Int → Prop) (out : (List Int)) : Prop :=
  K (out, (0 : Int))

def VC17_k2 (v20 : Int) (X1 : Int × (List Int) × (List Int) → Prop) (out2 : (List Int)) (stack2 : (List Int)) : Prop :=
  (InR (v20 + (1 : Int)) ∧ X1 ((v20 + (1 : Int)), out2, stack2))

def VC17_l1 (l : (List Bool)) (K : (List Int) × Int → Prop) (v20 : Int) (out : (List Int)) (stack : (List Int)) (X1 : Int × (List Int) × (List Int) → Prop) : Prop :=
  (((decide (v20 < (l.length : Int))) = true → (inIdx v20 l.length ∧ (((l.getD (v20).toNat false) = true → (roomN (stack.length + [v20].length) ∧ VC17_k2 v20 X1 out (stack ++ [v20]))) ∧ ((l.getD (v20).toNat false) = false → (InR ((stack.length : Int) - (1 : Int)) ∧ inIdx ((stack.length : Int) - (1 : Int)) stack.length ∧ (InR ((stack.length : Int) - (1 : Int)) ∧ (0 ≤ ((stack.length : Int) - (1 : Int)) ∧ ((stack.length : Int) - (1 : Int)) ≤ (stack.length : Int)) ∧ (inIdx v20 out.length ∧ (inIdx (stack.getD ((((stack.length : Int) - (1 : Int))).toNat) (0 : Int)) (out.set ((v20).toNat) (stack.getD ((((stack.length : Int) - (1 : Int))).toNat) (0 : Int))).length ∧ VC17_k2 v20 X1 ((out.set ((v20).toNat) (stack.getD ((((stack.length : Int) - (1 : Int))).toNat) (0 : Int))).set (((stack.getD ((((stack.length : Int) - (1 : Int))).toNat) (0 : Int))).toNat) v20) (stack.take ((((stack.length : Int) - (1 : Int))).toNat)))))))))) ∧ ((decide (v20 < (l.length : Int))) = false → VC17_k1 K out))

def VC17 (l : (List Bool)) (K : (List Int) × Int → Prop) : Prop :=
  (((decide ((60 : Int) < (l.length : Int))) = true → K (([] : (List Int)), (1 : Int))) ∧ ((decide ((60 : Int) < (l.length : Int))) = false → VC42 l (fun (ret13v : Bool) => (((!ret13v) = true → K (([] : (List Int)), (3 : Int))) ∧ ((!ret13v) = false → (room (l.length : Int) ∧ Loop (σ := Int × (List Int) × (List Int)) (fun s X => VC17_l1 l K s.1 s.2.1 s.2.2 X) ((0 : Int), (List.replicate ((l.length : Int)).toNat (0 : Int)), ([] : List Int))))))))

set_option maxHeartbeats 4000000 in
theorem link17 (l : (List Bool)) (K : (List Int) × Int → Prop) (h : VC17 l K) : ACalls Try.prog 17 [toV1 (.sl .bool) l] (fun res => ∃ y, res = (fun y => [toV1 (.sl (.int .i64)) y.1, toV1 (.int .i64) y.2]) y ∧ K y) := by
  refine acalls_of_aw [(.sl (.int .i64)), (.int .i64)] [.t 2, .t 3] Try.func17 rfl rfl rfl ?_
  unfold VC17 at h
  refine aw_seq ?_
  refine aw_region ?_
  refine awl_runp 2 [0] [] (ob := (True ∧ True ∧ True)) (st' := (⟨51, [(0, [], .v (.c (.p (.sl .bool) l)))], []⟩ : St)) (by kernel_rfl) ⟨trivial, trivial, trivial⟩ ?_
  refine awl_nil ?_
  refine thenQ_n ?_
  refine aw_seq ?_
  refine aw_seq ?_
  refine aw_region ?_
  refine awl_runp 3 [0, 11] [] (ob := (True ∧ True ∧ True ∧ True)) (st' := (⟨51, [(0, [], .v (.c (.p (.sl .bool) l))), (11, [], .v (.c (.p .bool (decide ((60 : Int) < (l.length : Int))))))], []⟩ : St)) (by kernel_rfl) ⟨trivial, trivial, trivial, trivial⟩ ?_
  refine awl_nil ?_
  refine thenQ_n ?_
  refine aw_cond (b := (decide ((60 : Int) < (l.length : Int)))) (by kernel_rfl) (fun hb => ?_) (fun hb => ?_)
  · have h := h.1 hb
    refine aw_seq ?_
    refine aw_region ?_
    refine awl_runp 2 [2, 3] [] (ob := (True ∧ True ∧ True)) (st' := (⟨51, [(2, [], .v (.c (.nils))), (3, [], .v (.c (.p (.int .i64) (1 : Int))))], []⟩ : St)) (by kernel_rfl) ⟨trivial, trivial, trivial⟩ ?_
    refine awl_nil ?_
    refine thenQ_n ?_
    refine aw_ret ?_
    refine thenQ_r ?_
    exact retQ_r (σ := (List Int) × Int) (R := (fun y => [toV1 (.sl (.int .i64)) y.1, toV1 (.int .i64) y.2])) (ob := (True ∧ True ∧ True)) (([] : (List Int)), (1 : Int)) (by kernel_rfl) ⟨trivial, trivial, trivial⟩ h
  · have h := h.2 hb
    refine aw_skip ?_
    refine thenQ_n ?_
    refine aw_seq ?_
    refine aw_seq ?_
    refine aw_region ?_
    refine awl_runp 1 [0, 12] [] (ob := (True ∧ True)) (st' := (⟨51, [(0, [], .v (.c (.p (.sl .bool) l))), (12, [], .v (.c (.p (.sl .bool) l)))], []⟩ : St)) (by kernel_rfl) ⟨trivial, trivial⟩ ?_
    refine awl_callk (p := []) (l := [toV1 (.sl .bool) l]) (cl := []) false [.d (.sl .bool)] [0, 13] [] (fun (ret13v : Bool) => (((!ret13v) = true → K (([] : (List Int)), (3 : Int))) ∧ ((!ret13v) = false → (room (l.length : Int) ∧ Loop (σ := Int × (List Int) × (List Int)) (fun s X => VC17_l1 l K s.1 s.2.1 s.2.2 X) ((0 : Int), (List.replicate ((l.length : Int)).toNat (0 : Int)), ([] : List Int)))))) (fun ret13v => [toV1 .bool ret13v]) (fun ret13v => (⟨51, [(0, [], .v (.c (.p (.sl .bool) l))), (13, [], .v (.c (.p .bool ret13v)))], []⟩ : St)) (by kernel_rfl) rfl (by kernel_rfl) rfl (by kernel_rfl) Try.call42 (by kernel_rfl) (fun ret13v => by kernel_rfl) (fun e => by cases e) (fun hg => link42 l _ h) (fun hg => noF hg) (fun ret13v h => ?_)
    have h : (((!ret13v) = true → K (([] : (List Int)), (3 : Int))) ∧ ((!ret13v) = false → (room (l.length : Int) ∧ Loop (σ := Int × (List Int) × (List Int)) (fun s X => VC17_l1 l K s.1 s.2.1 s.2.2 X) ((0 : Int), (List.replicate ((l.length : Int)).toNat (0 : Int)), ([] : List Int))))) := h
    refine awl_runp 1 [0, 14] [] (ob := (True ∧ True)) (st' := (⟨51, [(0, [], .v (.c (.p (.sl .bool) l))), (14, [], .v (.c (.p .bool (!ret13v))))], []⟩ : St)) (by kernel_rfl) ⟨trivial, trivial⟩ ?_
    refine awl_nil ?_
    refine thenQ_n ?_
    refine aw_cond (b := (!ret13v)) (by kernel_rfl) (fun hb => ?_) (fun hb => ?_)
    · have h := h.1 hb
      refine aw_seq ?_
      refine aw_region ?_
      refine awl_runp 2 [2, 3] [] (ob := (True ∧ True ∧ True)) (st' := (⟨51, [(2, [], .v (.c (.nils))), (3, [], .v (.c (.p (.int .i64) (3 : Int))))], []⟩ : St)) (by kernel_rfl) ⟨trivial, trivial, trivial⟩ ?_
      refine awl_nil ?_
      refine thenQ_n ?_
      refine aw_ret ?_
      refine thenQ_r ?_
      exact retQ_r (σ := (List Int) × Int) (R := (fun y => [toV1 (.sl (.int .i64)) y.1, toV1 (.int .i64) y.2])) (ob := (True ∧ True ∧ True)) (([] : (List Int)), (3 : Int)) (by kernel_rfl) ⟨trivial, trivial, trivial⟩ h
    · have h := h.2 hb
      refine aw_skip ?_
      refine thenQ_n ?_
      refine aw_seq ?_
      refine aw_region ?_
      obtain ⟨o1, h⟩ := h
      refine awl_runp 4 [0, 4] [17] (ob := (True ∧ True ∧ room (l.length : Int) ∧ True ∧ True)) (st' := (⟨51, [(0, [], .v (.c (.p (.sl .bool) l))), (4, [], .v (.c (.own 17)))], [(17, [], .arr 3 (.int .i64) (List.replicate ((l.length : Int)).toNat (0 : Int)))]⟩ : St)) (by kernel_rfl) ⟨trivial, trivial, o1, trivial, trivial⟩ ?_
      refine awl_nil ?_
      refine thenQ_n ?_
      refine aw_seq ?_
      refine aw_region ?_
      refine awl_runp 1 [0, 4, 5] [17] (ob := (True ∧ True)) (st' := (⟨51, [(0, [], .v (.c (.p (.sl .bool) l))), (4, [], .v (.c (.own 17))), (5, [], .v (.c (.nils)))], [(17, [], .arr 3 (.int .i64) (List.replicate ((l.length : Int)).toNat (0 : Int)))]⟩ : St)) (by kernel_rfl) ⟨trivial, trivial⟩ ?_
      refine awl_nil ?_
      refine thenQ_n ?_
      refine aw_seq ?_
      refine aw_seq ?_
      refine aw_region ?_
      refine awl_runp 3 [4, 5, 18, 19, 20] [17] (ob := (True ∧ True ∧ True ∧ True)) (st' := (⟨51, [(4, [], .v (.c (.own 17))), (5, [], .v (.c (.nils))), (18, [], .v (.c (.p (.sl .bool) l))), (19, [], .v (.c (.p (.int .i64) (l.length : Int)))), (20, [], .v (.c (.p (.int .i64) (0 : Int))))], [(17, [], .arr 3 (.int .i64) (List.replicate ((l.length : Int)).toNat (0 : Int)))]⟩ : St)) (by kernel_rfl) ⟨trivial, trivial, trivial, trivial⟩ ?_
      refine awl_nil ?_
      refine thenQ_n ?_
      refine withJoin (σ := (List Int)) (fun s => (⟨51, [(4, [], .v (.c (.own 17)))], [(17, [], .arr 3 (.int .i64) s)]⟩ : St)) (fun s => VC17_k1 K s) (fun out h => ?_) (fun rest1 => ?_)
      · have h : VC17_k1 K out := h
        unfold VC17_k1 at h
        refine thenQ_n ?_
        refine aw_seq ?_
        refine aw_region ?_
        refine awl_runp 3 [2, 3] [17] (ob := (True ∧ True ∧ True ∧ True)) (st' := (⟨51, [(2, [], .v (.c (.own 17))), (3, [], .v (.c (.p (.int .i64) (0 : Int))))], [(17, [], .arr 3 (.int .i64) out)]⟩ : St)) (by kernel_rfl) ⟨trivial, trivial, trivial, trivial⟩ ?_
        refine awl_nil ?_
        refine thenQ_n ?_
        refine aw_conv [.freeze 17] (st' := (⟨51, [(2, [], .v (.c (.p (.sl (.int .i64)) out))), (3, [], .v (.c (.p (.int .i64) (0 : Int))))], []⟩ : St)) (by kernel_rfl) ?_
        refine aw_ret ?_
        exact retQ_r (σ := (List Int) × Int) (R := (fun y => [toV1 (.sl (.int .i64)) y.1, toV1 (.int .i64) y.2])) (ob := (True ∧ True ∧ True)) (out, (0 : Int)) (by kernel_rfl) ⟨trivial, trivial, trivial⟩ h
      · refine aw_block ?_
        refine aw_conv [.nilOwn 5 5005 3 (.int .i64), .prune [4, 5, 18, 19, 20] [17, 5005]] (st' := (⟨51, [(4, [], .v (.c (.own 17))), (5, [], .v (.c (.own 5005))), (18, [], .v (.c (.p (.sl .bool) l))), (19, [], .v (.c (.p (.int .i64) (l.length : Int)))), (20, [], .v (.c (.p (.int .i64) (0 : Int))))], [(17, [], .arr 3 (.int .i64) (List.replicate ((l.length : Int)).toNat (0 : Int))), (5005, [], .arr 3 (.int .i64) ([] : List Int))]⟩ : St)) (by kernel_rfl) ?_
        refine aw_loop (σ := Int × (List Int) × (List Int)) (fun s => (⟨51, [(4, [], .v (.c (.own 17))), (5, [], .v (.c (.own 5005))), (18, [], .v (.c (.p (.sl .bool) l))), (19, [], .v (.c (.p (.int .i64) (l.length : Int)))), (20, [], .v (.c (.p (.int .i64) s.1)))], [(17, [], .arr 3 (.int .i64) s.2.1), (5005, [], .arr 3 (.int .i64) s.2.2)]⟩ : St)) (fun s X => VC17_l1 l K s.1 s.2.1 s.2.2 X) (s0 := ((0 : Int), (List.replicate ((l.length : Int)).toNat (0 : Int)), ([] : List Int))) (fun s X1 h => ?_) h
        obtain ⟨v20, out, stack⟩ := s
        have h : VC17_l1 l K v20 out stack X1 := h
        unfold VC17_l1 at h
        refine aw_seq ?_
        refine aw_region ?_
        refine awl_runp 1 [4, 5, 18, 19, 20, 21] [17, 5005] (ob := (True ∧ True)) (st' := (⟨51, [(4, [], .v (.c (.own 17))), (5, [], .v (.c (.own 5005))), (18, [], .v (.c (.p (.sl .bool) l))), (19, [], .v (.c (.p (.int .i64) (l.length : Int)))), (20, [], .v (.c (.p (.int .i64) v20))), (21, [], .v (.c (.p .bool (decide (v20 < (l.length : Int))))))], [(17, [], .arr 3 (.int .i64) out), (5005, [], .arr 3 (.int .i64) stack)]⟩ : St)) (by kernel_rfl) ⟨trivial, trivial⟩ ?_
        refine awl_nil ?_
        refine thenQ_n ?_
        refine aw_seq ?_
        refine aw_cond (b := (decide (v20 < (l.length : Int)))) (by kernel_rfl) (fun hb => ?_) (fun hb => ?_)
        · have h := h.1 hb
          refine aw_skip ?_
          refine thenQ_n ?_
          refine aw_seq ?_
          refine withJoin (σ := (List Int) × (List Int)) (fun s => (⟨51, [(4, [], .v (.c (.own 17))), (5, [], .v (.c (.own 29))), (18, [], .v (.c (.p (.sl .bool) l))), (19, [], .v (.c (.p (.int .i64) (l.length : Int)))), (20, [], .v (.c (.p (.int .i64) v20)))], [(17, [], .arr 3 (.int .i64) s.1), (29, [], .arr 3 (.int .i64) s.2)]⟩ : St)) (fun s => VC17_k2 v20 X1 s.1 s.2) (fun s h => ?_) (fun rest2 => ?_)
          · obtain ⟨out2, stack2⟩ := s
            have h : VC17_k2 v20 X1 out2 stack2 := h
            unfold VC17_k2 at h
            refine thenQ_n ?_
            refine aw_region ?_
            obtain ⟨o1, h⟩ := h
            refine awl_runp 2 [4, 5, 18, 19, 20] [17, 29] (ob := (InR (v20 + (1 : Int)) ∧ True ∧ True)) (st' := (⟨51, [(4, [], .v (.c (.own 17))), (5, [], .v (.c (.own 29))), (18, [], .v (.c (.p (.sl .bool) l))), (19, [], .v (.c (.p (.int .i64) (l.length : Int)))), (20, [], .v (.c (.p (.int .i64) (v20 + (1 : Int)))))], [(17, [], .arr 3 (.int .i64) out2), (29, [], .arr 3 (.int .i64) stack2)]⟩ : St)) (by kernel_rfl) ⟨o1, trivial, trivial⟩ ?_
            refine awl_conv [.ren 29 20029, .ren 20029 5005] (st' := (⟨51, [(4, [], .v (.c (.own 17))), (5, [], .v (.c (.own 5005))), (18, [], .v (.c (.p (.sl .bool) l))), (19, [], .v (.c (.p (.int .i64) (l.length : Int)))), (20, [], .v (.c (.p (.int .i64) (v20 + (1 : Int)))))], [(17, [], .arr 3 (.int .i64) out2), (5005, [], .arr 3 (.int .i64) stack2)]⟩ : St)) (by kernel_rfl) ?_
            refine awl_nil ?_
            exact thenQ_n ⟨((v20 + (1 : Int)), out2, stack2), rfl, h⟩
          · refine aw_block ?_
            refine aw_seq ?_
            refine aw_region ?_
            obtain ⟨o1, h⟩ := h
            refine awl_runp 5 [4, 5, 6, 7, 18, 19, 20] [17, 5005] (ob := (True ∧ inIdx v20 l.length ∧ True ∧ True ∧ True ∧ True)) (st' := (⟨51, [(4, [], .v (.c (.own 17))), (5, [], .v (.c (.own 5005))), (6, [], .v (.c (.p (.int .i64) v20))), (7, [], .v (.c (.p .bool (l.getD (v20).toNat false)))), (18, [], .v (.c (.p (.sl .bool) l))), (19, [], .v (.c (.p (.int .i64) (l.length : Int)))), (20, [], .v (.c (.p (.int .i64) v20)))], [(17, [], .arr 3 (.int .i64) out), (5005, [], .arr 3 (.int .i64) stack)]⟩ : St)) (by kernel_rfl) ⟨trivial, o1, trivial, trivial, trivial, trivial⟩ ?_
            refine awl_nil ?_
            refine thenQ_n ?_
            refine aw_seq ?_
            refine aw_seq ?_
            refine aw_region ?_
            refine awl_runp 1 [4, 5, 6, 18, 19, 20, 25] [17, 5005] (ob := (True ∧ True)) (st' := (⟨51, [(4, [], .v (.c (.own 17))), (5, [], .v (.c (.own 5005))), (6, [], .v (.c (.p (.int .i64) v20))), (18, [], .v (.c (.p (.sl .bool) l))), (19, [], .v (.c (.p (.int .i64) (l.length : Int)))), (20, [], .v (.c (.p (.int .i64) v20))), (25, [], .v (.c (.p .bool (l.getD (v20).toNat false))))], [(17, [], .arr 3 (.int .i64) out), (5005, [], .arr 3 (.int .i64) stack)]⟩ : St)) (by kernel_rfl) ⟨trivial, trivial⟩ ?_
            refine awl_nil ?_
            refine thenQ_n ?_
            refine aw_cond (b := (l.getD (v20).toNat false)) (by kernel_rfl) (fun hb => ?_) (fun hb => ?_)
            · have h := h.1 hb
              refine aw_seq ?_
              refine aw_region ?_
              obtain ⟨o1, h⟩ := h
              refine awl_runp 5 [4, 5, 18, 19, 20] [17, 29] (ob := (True ∧ True ∧ True ∧ roomN (stack.length + [v20].length) ∧ True ∧ True)) (st' := (⟨51, [(4, [], .v (.c (.own 17))), (5, [], .v (.c (.own 29))), (18, [], .v (.c (.p (.sl .bool) l))), (19, [], .v (.c (.p (.int .i64) (l.length : Int)))), (20, [], .v (.c (.p (.int .i64) v20)))], [(17, [], .arr 3 (.int .i64) out), (29, [], .arr 3 (.int .i64) (stack ++ [v20]))]⟩ : St)) (by kernel_rfl) ⟨trivial, trivial, trivial, o1, trivial, trivial⟩ ?_
              refine awl_nil ?_
              refine thenQ_n ?_
              refine aw_exit ?_
              refine thenQ_x ?_
              refine blockQ_hit ?_
              exact rest2 (out, (stack ++ [v20])) h
            · have h := h.2 hb
              refine aw_skip ?_
              refine thenQ_n ?_
              refine aw_seq ?_
              refine aw_region ?_
              obtain ⟨o1, o2, h⟩ := h
              refine awl_runp 7 [4, 5, 6, 8, 18, 19, 20] [17, 5005] (ob := (True ∧ True ∧ True ∧ InR ((stack.length : Int) - (1 : Int)) ∧ inIdx ((stack.length : Int) - (1 : Int)) stack.length ∧ True ∧ True ∧ True)) (st' := (⟨51, [(4, [], .v (.c (.own 17))), (5, [], .v (.c (.own 5005))), (6, [], .v (.c (.p (.int .i64) v20))), (8, [], .v (.c (.p (.int .i64) (stack.getD ((((stack.length : Int) - (1 : Int))).toNat) (0 : Int))))), (18, [], .v (.c (.p (.sl .bool) l))), (19, [], .v (.c (.p (.int .i64) (l.length : Int)))), (20, [], .v (.c (.p (.int .i64) v20)))], [(17, [], .arr 3 (.int .i64) out), (5005, [], .arr 3 (.int .i64) stack)]⟩ : St)) (by kernel_rfl) ⟨trivial, trivial, trivial, o1, o2, trivial, trivial, trivial⟩ ?_
              refine awl_nil ?_
              refine thenQ_n ?_
              refine aw_seq ?_
              refine aw_region ?_
              obtain ⟨o1, o2, h⟩ := h
              refine awl_runp 6 [4, 5, 6, 8, 18, 19, 20] [17, 5005] (ob := (True ∧ True ∧ True ∧ InR ((stack.length : Int) - (1 : Int)) ∧ (0 ≤ ((stack.length : Int) - (1 : Int)) ∧ ((stack.length : Int) - (1 : Int)) ≤ (stack.length : Int)) ∧ True ∧ True)) (st' := (⟨51, [(4, [], .v (.c (.own 17))), (5, [], .v (.c (.vw 5005 0 ((((stack.length : Int) - (1 : Int))).toNat) 1))), (6, [], .v (.c (.p (.int .i64) v20))), (8, [], .v (.c (.p (.int .i64) (stack.getD ((((stack.length : Int) - (1 : Int))).toNat) (0 : Int))))), (18, [], .v (.c (.p (.sl .bool) l))), (19, [], .v (.c (.p (.int .i64) (l.length : Int)))), (20, [], .v (.c (.p (.int .i64) v20)))], [(17, [], .arr 3 (.int .i64) out), (5005, [], .arr 3 (.int .i64) stack)]⟩ : St)) (by kernel_rfl) ⟨trivial, trivial, trivial, o1, o2, trivial, trivial⟩ ?_
              refine awl_nil ?_
              refine thenQ_n ?_
              refine aw_seq ?_
              refine aw_region ?_
              obtain ⟨o1, h⟩ := h
              refine awl_runp 5 [4, 5, 6, 8, 18, 19, 20] [17, 5005] (ob := (True ∧ True ∧ True ∧ inIdx v20 out.length ∧ True ∧ True)) (st' := (⟨51, [(4, [], .v (.c (.own 17))), (5, [], .v (.c (.vw 5005 0 ((((stack.length : Int) - (1 : Int))).toNat) 1))), (6, [], .v (.c (.p (.int .i64) v20))), (8, [], .v (.c (.p (.int .i64) (stack.getD ((((stack.length : Int) - (1 : Int))).toNat) (0 : Int))))), (18, [], .v (.c (.p (.sl .bool) l))), (19, [], .v (.c (.p (.int .i64) (l.length : Int)))), (20, [], .v (.c (.p (.int .i64) v20)))], [(17, [], .arr 3 (.int .i64) (out.set ((v20).toNat) (stack.getD ((((stack.length : Int) - (1 : Int))).toNat) (0 : Int)))), (5005, [], .arr 3 (.int .i64) stack)]⟩ : St)) (by kernel_rfl) ⟨trivial, trivial, trivial, o1, trivial, trivial⟩ ?_
              refine awl_nil ?_
              refine thenQ_n ?_
              refine aw_region ?_
              obtain ⟨o1, h⟩ := h
              refine awl_runp 5 [4, 5, 18, 19, 20] [17, 5005] (ob := (True ∧ True ∧ True ∧ inIdx (stack.getD ((((stack.length : Int) - (1 : Int))).toNat) (0 : Int)) (out.set ((v20).toNat) (stack.getD ((((stack.length : Int) - (1 : Int))).toNat) (0 : Int))).length ∧ True ∧ True)) (st' := (⟨51, [(4, [], .v (.c (.own 17))), (5, [], .v (.c (.vw 5005 0 ((((stack.length : Int) - (1 : Int))).toNat) 1))), (18, [], .v (.c (.p (.sl .bool) l))), (19, [], .v (.c (.p (.int .i64) (l.length : Int)))), (20, [], .v (.c (.p (.int .i64) v20)))], [(17, [], .arr 3 (.int .i64) ((out.set ((v20).toNat) (stack.getD ((((stack.length : Int) - (1 : Int))).toNat) (0 : Int))).set (((stack.getD ((((stack.length : Int) - (1 : Int))).toNat) (0 : Int))).toNat) v20)), (5005, [], .arr 3 (.int .i64) stack)]⟩ : St)) (by kernel_rfl) ⟨trivial, trivial, trivial, o1, trivial, trivial⟩ ?_
              refine awl_conv [.cut 5 5005, .ren 5005 25005, .ren 25005 29, .prune [4, 5, 18, 19, 20] [17, 29]] (st' := (⟨51, [(4, [], .v (.c (.own 17))), (5, [], .v (.c (.own 29))), (18, [], .v (.c (.p (.sl .bool) l))), (19, [], .v (.c (.p (.int .i64) (l.length : Int)))), (20, [], .v (.c (.p (.int .i64) v20)))], [(17, [], .arr 3 (.int .i64) ((out.set ((v20).toNat) (stack.getD ((((stack.length : Int) - (1 : Int))).toNat) (0 : Int))).set (((stack.getD ((((stack.length : Int) - (1 : Int))).toNat) (0 : Int))).toNat) v20)), (29, [], .arr 3 (.int .i64) (stack.take ((((stack.length : Int) - (1 : Int))).toNat)))]⟩ : St)) (by kernel_rfl) ?_
              refine awl_nil ?_
              refine blockQ_n ?_
              exact rest2 (((out.set ((v20).toNat) (stack.getD ((((stack.length : Int) - (1 : Int))).toNat) (0 : Int))).set (((stack.getD ((((stack.length : Int) - (1 : Int))).toNat) (0 : Int))).toNat) v20), (stack.take ((((stack.length : Int) - (1 : Int))).toNat))) h
        · have h := h.2 hb
          refine aw_conv [.prune [4] [17]] (st' := (⟨51, [(4, [], .v (.c (.own 17)))], [(17, [], .arr 3 (.int .i64) out)]⟩ : St)) (by kernel_rfl) ?_
          refine aw_exit ?_
          refine thenQ_x ?_
          refine thenQ_x ?_
          refine blockQ_hit ?_
          exact rest1 out h

-- coppicer/bracket.Is
def VC18 (l : (List Bool)) (K : Bool × Int → Prop) : Prop :=
  (((decide ((60 : Int) < (l.length : Int))) = true → K (false, (1 : Int))) ∧ ((decide ((60 : Int) < (l.length : Int))) = false → VC42 l (fun (ret8v : Bool) => K (ret8v, (0 : Int)))))

set_option maxHeartbeats 4000000 in
theorem link18 (l : (List Bool)) (K : Bool × Int → Prop) (h : VC18 l K) : ACalls Try.prog 18 [toV1 (.sl .bool) l] (fun res => ∃ y, res = (fun y => [toV1 .bool y.1, toV1 (.int .i64) y.2]) y ∧ K y) := by
  refine acalls_of_aw [.bool, (.int .i64)] [.t 2, .t 3] Try.func18 rfl rfl rfl ?_
  unfold VC18 at h
  refine aw_seq ?_
  refine aw_region ?_
  refine awl_runp 2 [0] [] (ob := (True ∧ True ∧ True)) (st' := (⟨9, [(0, [], .v (.c (.p (.sl .bool) l)))], []⟩ : St)) (by kernel_rfl) ⟨trivial, trivial, trivial⟩ ?_
  refine awl_nil ?_
  refine thenQ_n ?_
  refine aw_seq ?_
  refine aw_seq ?_
  refine aw_region ?_
  refine awl_runp 3 [0, 6] [] (ob := (True ∧ True ∧ True ∧ True)) (st' := (⟨9, [(0, [], .v (.c (.p (.sl .bool) l))), (6, [], .v (.c (.p .bool (decide ((60 : Int) < (l.length : Int))))))], []⟩ : St)) (by kernel_rfl) ⟨trivial, trivial, trivial, trivial⟩ ?_
  refine awl_nil ?_
  refine thenQ_n ?_
  refine aw_cond (b := (decide ((60 : Int) < (l.length : Int)))) (by kernel_rfl) (fun hb => ?_) (fun hb => ?_)
  · have h := h.1 hb
    refine aw_seq ?_
    refine aw_region ?_
    refine awl_runp 2 [2, 3] [] (ob := (True ∧ True ∧ True)) (st' := (⟨9, [(2, [], .v (.c (.p .bool false))), (3, [], .v (.c (.p (.int .i64) (1 : Int))))], []⟩ : St)) (by kernel_rfl) ⟨trivial, trivial, trivial⟩ ?_
    refine awl_nil ?_
    refine thenQ_n ?_
    refine aw_ret ?_
    refine thenQ_r ?_
    exact retQ_r (σ := Bool × Int) (R := (fun y => [toV1 .bool y.1, toV1 (.int .i64) y.2])) (ob := (True ∧ True ∧ True)) (false, (1 : Int)) (by kernel_rfl) ⟨trivial, trivial, trivial⟩ h
  · have h := h.2 hb
    refine aw_skip ?_
    refine thenQ_n ?_
    refine aw_seq ?_
    refine aw_region ?_
    refine awl_runp 1 [7] [] (ob := (True ∧ True)) (st' := (⟨9, [(7, [], .v (.c (.p (.sl .bool) l)))], []⟩ : St)) (by kernel_rfl) ⟨trivial, trivial⟩ ?_
    refine awl_callk (p := []) (l := [toV1 (.sl .bool) l]) (cl := []) false [.d (.sl .bool)] [8] [] (fun (ret8v : Bool) => K (ret8v, (0 : Int))) (fun ret8v => [toV1 .bool ret8v]) (fun ret8v => (⟨9, [(8, [], .v (.c (.p .bool ret8v)))], []⟩ : St)) (by kernel_rfl) rfl (by kernel_rfl) rfl (by kernel_rfl) Try.call42 (by kernel_rfl) (fun ret8v => by kernel_rfl) (fun e => by cases e) (fun hg => link42 l _ h) (fun hg => noF hg) (fun ret8v h => ?_)
    have h : K (ret8v, (0 : Int)) := h
    refine awl_runp 2 [2, 3] [] (ob := (True ∧ True ∧ True)) (st' := (⟨9, [(2, [], .v (.c (.p .bool ret8v))), (3, [], .v (.c (.p (.int .i64) (0 : Int))))], []⟩ : St)) (by kernel_rfl) ⟨trivial, trivial, trivial⟩ ?_
    refine awl_nil ?_
    refine thenQ_n ?_
    refine aw_ret ?_
    exact retQ_r (σ := Bool × Int) (R := (fun y => [toV1 .bool y.1, toV1 (.int .i64) y.2])) (ob := (True ∧ True ∧ True)) (ret8v, (0 : Int)) (by kernel_rfl) ⟨trivial, trivial, trivial⟩ h

-- coppicer/coppicerkeep.inside
def VC19_k1 (K : Bool → Prop) : Prop :=
  K true

def VC19_l1 (n : Int) (l : (List Int)) (K : Bool → Prop) (v9 : Int) (X1 : Int → Prop) : Prop :=
  (((decide (v9 < (l.length : Int))) = true → (inIdx v9 l.length ∧ ((((decide ((l.getD (v9).toNat (0 : Int)) < (0 : Int))) || (decide (n ≤ (l.getD (v9).toNat (0 : Int))))) = true → K false) ∧ (((decide ((l.getD (v9).toNat (0 : Int)) < (0 : Int))) || (decide (n ≤ (l.getD (v9).toNat (0 : Int))))) = false → (InR (v9 + (1 : Int)) ∧ X1 (v9 + (1 : Int))))))) ∧ ((decide (v9 < (l.length : Int))) = false → VC19_k1 K))

def VC19 (n : Int) (l : (List Int)) (K : Bool → Prop) : Prop :=
  Loop (σ := Int) (fun s X => VC19_l1 n l K s X) (0 : Int)

set_option maxHeartbeats 4000000 in
theorem link19 (n : Int) (l : (List Int)) (K : Bool → Prop) (h : VC19 n l K) : ACalls Try.prog 19 [toV1 (.int .i64) n, toV1 (.sl (.int .i64)) l] (fun res => ∃ y, res = (fun y => [toV1 .bool y]) y ∧ K y) := by
  refine acalls_of_aw [.bool] [.t 4] Try.func19 rfl rfl rfl ?_
  unfold VC19 at h
  refine aw_seq ?_
  refine aw_region ?_
  refine awl_runp 1 [0, 1] [] (ob := (True ∧ True)) (st' := (⟨21, [(0, [], .v (.c (.p (.int .i64) n))), (1, [], .v (.c (.p (.sl (.int .i64)) l)))], []⟩ : St)) (by kernel_rfl) ⟨trivial, trivial⟩ ?_
  refine awl_nil ?_
  refine thenQ_n ?_
  refine aw_seq ?_
  refine aw_seq ?_
  refine aw_region ?_
  refine awl_runp 3 [0, 7, 8, 9] [] (ob := (True ∧ True ∧ True ∧ True)) (st' := (⟨21, [(0, [], .v (.c (.p (.int .i64) n))), (7, [], .v (.c (.p (.sl (.int .i64)) l))), (8, [], .v (.c (.p (.int .i64) (l.length : Int)))), (9, [], .v (.c (.p (.int .i64) (0 : Int))))], []⟩ : St)) (by kernel_rfl) ⟨trivial, trivial, trivial, trivial⟩ ?_
  refine awl_nil ?_
  refine thenQ_n ?_
  refine withJoin (σ := Unit) (fun s => (⟨21, [], []⟩ : St)) (fun s => VC19_k1 K) (fun s h => ?_) (fun rest1 => ?_)
  · have h : VC19_k1 K := h
    unfold VC19_k1 at h
    refine thenQ_n ?_
    refine aw_seq ?_
    refine aw_region ?_
    refine awl_runp 1 [4] [] (ob := (True ∧ True)) (st' := (⟨21, [(4, [], .v (.c (.p .bool true)))], []⟩ : St)) (by kernel_rfl) ⟨trivial, trivial⟩ ?_
    refine awl_nil ?_
    refine thenQ_n ?_
    refine aw_ret ?_
    exact retQ_r (σ := Bool) (R := (fun y => [toV1 .bool y])) (ob := (True ∧ True)) true (by kernel_rfl) ⟨trivial, trivial⟩ h
  · refine aw_block ?_
    refine aw_loop (σ := Int) (fun s => (⟨21, [(0, [], .v (.c (.p (.int .i64) n))), (7, [], .v (.c (.p (.sl (.int .i64)) l))), (8, [], .v (.c (.p (.int .i64) (l.length : Int)))), (9, [], .v (.c (.p (.int .i64) s)))], []⟩ : St)) (fun s X => VC19_l1 n l K s X) (s0 := (0 : Int)) (fun v9 X1 h => ?_) h
    have h : VC19_l1 n l K v9 X1 := h
    unfold VC19_l1 at h
    refine aw_seq ?_
    refine aw_region ?_
    refine awl_runp 1 [0, 7, 8, 9, 10] [] (ob := (True ∧ True)) (st' := (⟨21, [(0, [], .v (.c (.p (.int .i64) n))), (7, [], .v (.c (.p (.sl (.int .i64)) l))), (8, [], .v (.c (.p (.int .i64) (l.length : Int)))), (9, [], .v (.c (.p (.int .i64) v9))), (10, [], .v (.c (.p .bool (decide (v9 < (l.length : Int))))))], []⟩ : St)) (by kernel_rfl) ⟨trivial, trivial⟩ ?_
    refine awl_nil ?_
    refine thenQ_n ?_
    refine aw_seq ?_
    refine aw_cond (b := (decide (v9 < (l.length : Int)))) (by kernel_rfl) (fun hb => ?_) (fun hb => ?_)
    · have h := h.1 hb
      refine aw_skip ?_
      refine thenQ_n ?_
      refine aw_seq ?_
      refine aw_block ?_
      refine aw_seq ?_
      refine aw_region ?_
      obtain ⟨o1, h⟩ := h
      refine awl_runp 3 [0, 6, 7, 8, 9] [] (ob := (inIdx v9 l.length ∧ True ∧ True ∧ True)) (st' := (⟨21, [(0, [], .v (.c (.p (.int .i64) n))), (6, [], .v (.c (.p (.int .i64) (l.getD (v9).toNat (0 : Int))))), (7, [], .v (.c (.p (.sl (.int .i64)) l))), (8, [], .v (.c (.p (.int .i64) (l.length : Int)))), (9, [], .v (.c (.p (.int .i64) v9)))], []⟩ : St)) (by kernel_rfl) ⟨o1, trivial, trivial, trivial⟩ ?_
      refine awl_nil ?_
      refine thenQ_n ?_
      refine aw_seq ?_
      refine aw_region ?_
      refine awl_runp 7 [0, 7, 8, 9, 19] [] (ob := (True ∧ True ∧ True ∧ ((decide ((l.getD (v9).toNat (0 : Int)) < (0 : Int))) = false → True) ∧ ((decide ((l.getD (v9).toNat (0 : Int)) < (0 : Int))) = false → True) ∧ ((decide ((l.getD (v9).toNat (0 : Int)) < (0 : Int))) = false → True) ∧ True ∧ True)) (st' := (⟨21, [(0, [], .v (.c (.p (.int .i64) n))), (7, [], .v (.c (.p (.sl (.int .i64)) l))), (8, [], .v (.c (.p (.int .i64) (l.length : Int)))), (9, [], .v (.c (.p (.int .i64) v9))), (19, [], .v (.c (.p .bool ((decide ((l.getD (v9).toNat (0 : Int)) < (0 : Int))) || (decide (n ≤ (l.getD (v9).toNat (0 : Int))))))))], []⟩ : St)) (by kernel_rfl) ⟨trivial, trivial, trivial, (fun _ => trivial), (fun _ => trivial), (fun _ => trivial), trivial, trivial⟩ ?_
      refine awl_nil ?_
      refine thenQ_n ?_
      refine aw_cond (b := ((decide ((l.getD (v9).toNat (0 : Int)) < (0 : Int))) || (decide (n ≤ (l.getD (v9).toNat (0 : Int)))))) (by kernel_rfl) (fun hb => ?_) (fun hb => ?_)
      · have h := h.1 hb
        refine aw_seq ?_
        refine aw_region ?_
        refine awl_runp 1 [4] [] (ob := (True ∧ True)) (st' := (⟨21, [(4, [], .v (.c (.p .bool false)))], []⟩ : St)) (by kernel_rfl) ⟨trivial, trivial⟩ ?_
        refine awl_nil ?_
        refine thenQ_n ?_
        refine aw_ret ?_
        refine blockQ_r ?_
        refine thenQ_r ?_
        refine thenQ_r ?_
        refine blockQ_r ?_
        refine thenQ_r ?_
        exact retQ_r (σ := Bool) (R := (fun y => [toV1 .bool y])) (ob := (True ∧ True)) false (by kernel_rfl) ⟨trivial, trivial⟩ h
      · have h := h.2 hb
        refine aw_skip ?_
        refine blockQ_n ?_
        refine thenQ_n ?_
        refine aw_region ?_
        obtain ⟨o1, h⟩ := h
        refine awl_runp 2 [0, 7, 8, 9] [] (ob := (InR (v9 + (1 : Int)) ∧ True ∧ True)) (st' := (⟨21, [(0, [], .v (.c (.p (.int .i64) n))), (7, [], .v (.c (.p (.sl (.int .i64)) l))), (8, [], .v (.c (.p (.int .i64) (l.length : Int)))), (9, [], .v (.c (.p (.int .i64) (v9 + (1 : Int)))))], []⟩ : St)) (by kernel_rfl) ⟨o1, trivial, trivial⟩ ?_
        refine awl_nil ?_
        exact thenQ_n ⟨(v9 + (1 : Int)), rfl, h⟩
    · have h := h.2 hb
      refine aw_conv [.prune [] []] (st' := (⟨21, [], []⟩ : St)) (by kernel_rfl) ?_
      refine aw_exit ?_
      refine thenQ_x ?_
      refine thenQ_x ?_
      refine blockQ_hit ?_
      exact rest1 () h

-- coppicer/coppicerkeep.BracketNest
def VC5 (l : (List Bool)) (a : Int) (b : Int) (K : Bool → Prop) : Prop :=
  VC17 l (fun (ret15v : (List Int) × Int) => VC18 l (fun (ret20v : Bool × Int) => (((decide ((60 : Int) < (l.length : Int))) = true → K ((!decide (ret15v.2 = (0 : Int))) && (!decide (ret20v.2 = (0 : Int))))) ∧ ((decide ((60 : Int) < (l.length : Int))) = false → ((((!decide (ret20v.2 = (0 : Int))) || (ret20v.1 != (decide (ret15v.2 = (0 : Int))))) = true → K false) ∧ (((!decide (ret20v.2 = (0 : Int))) || (ret20v.1 != (decide (ret15v.2 = (0 : Int))))) = false → ((((!decide (ret15v.2 = (0 : Int))) || (decide ((l.length : Int) = (0 : Int)))) = true → K (decide ((ret15v.1.length : Int) = (0 : Int)))) ∧ (((!decide (ret15v.2 = (0 : Int))) || (decide ((l.length : Int) = (0 : Int)))) = false → ((0 ≤ a ∧ 0 < (l.length : Int)) ∧ ((0 ≤ b ∧ 0 < (l.length : Int)) ∧ gcall (α := Bool) (!(!decide ((ret15v.1.length : Int) = (l.length : Int)))) (VC19 (l.length : Int) ret15v.1) false (fun (ret69v : Bool) => ((((!decide ((ret15v.1.length : Int) = (l.length : Int))) || (!ret69v)) = false → inIdx (a % (l.length : Int)) ret15v.1.length) ∧ (((!decide ((ret15v.1.length : Int) = (l.length : Int))) || (!ret69v)) = false → inIdx (ret15v.1.getD ((a % (l.length : Int))).toNat (0 : Int)) ret15v.1.length) ∧ ((((!decide ((ret15v.1.length : Int) = (l.length : Int))) || (!ret69v)) || (!decide ((ret15v.1.getD ((ret15v.1.getD ((a % (l.length : Int))).toNat (0 : Int))).toNat (0 : Int)) = (a % (l.length : Int))))) = false → inIdx (a % (l.length : Int)) ret15v.1.length) ∧ (((((!decide ((ret15v.1.length : Int) = (l.length : Int))) || (!ret69v)) || (!decide ((ret15v.1.getD ((ret15v.1.getD ((a % (l.length : Int))).toNat (0 : Int))).toNat (0 : Int)) = (a % (l.length : Int))))) || (decide ((ret15v.1.getD ((a % (l.length : Int))).toNat (0 : Int)) = (a % (l.length : Int))))) = false → inIdx (a % (l.length : Int)) l.length) ∧ (((((!decide ((ret15v.1.length : Int) = (l.length : Int))) || (!ret69v)) || (!decide ((ret15v.1.getD ((ret15v.1.getD ((a % (l.length : Int))).toNat (0 : Int))).toNat (0 : Int)) = (a % (l.length : Int))))) || (decide ((ret15v.1.getD ((a % (l.length : Int))).toNat (0 : Int)) = (a % (l.length : Int))))) = false → inIdx (a % (l.length : Int)) ret15v.1.length) ∧ (((((((!decide ((ret15v.1.length : Int) = (l.length : Int))) || (!ret69v)) || (!decide ((ret15v.1.getD ((ret15v.1.getD ((a % (l.length : Int))).toNat (0 : Int))).toNat (0 : Int)) = (a % (l.length : Int))))) || (decide ((ret15v.1.getD ((a % (l.length : Int))).toNat (0 : Int)) = (a % (l.length : Int))))) || ((l.getD ((a % (l.length : Int))).toNat false) != (decide ((a % (l.length : Int)) < (ret15v.1.getD ((a % (l.length : Int))).toNat (0 : Int)))))) = true → K false) ∧ ((((((!decide ((ret15v.1.length : Int) = (l.length : Int))) || (!ret69v)) || (!decide ((ret15v.1.getD ((ret15v.1.getD ((a % (l.length : Int))).toNat (0 : Int))).toNat (0 : Int)) = (a % (l.length : Int))))) || (decide ((ret15v.1.getD ((a % (l.length : Int))).toNat (0 : Int)) = (a % (l.length : Int))))) || ((l.getD ((a % (l.length : Int))).toNat false) != (decide ((a % (l.length : Int)) < (ret15v.1.getD ((a % (l.length : Int))).toNat (0 : Int)))))) = false → (inIdx (a % (l.length : Int)) l.length ∧ ((!(l.getD ((a % (l.length : Int))).toNat false)) = false → inIdx (b % (l.length : Int)) l.length) ∧ (((((!(l.getD ((a % (l.length : Int))).toNat false)) || (!(l.getD ((b % (l.length : Int))).toNat false))) || (decide ((b % (l.length : Int)) ≤ (a % (l.length : Int))))) = true → K true) ∧ ((((!(l.getD ((a % (l.length : Int))).toNat false)) || (!(l.getD ((b % (l.length : Int))).toNat false))) || (decide ((b % (l.length : Int)) ≤ (a % (l.length : Int))))) = false → (inIdx (a % (l.length : Int)) ret15v.1.length ∧ ((decide ((ret15v.1.getD ((a % (l.length : Int))).toNat (0 : Int)) < (b % (l.length : Int)))) = false → inIdx (b % (l.length : Int)) ret15v.1.length) ∧ ((decide ((ret15v.1.getD ((a % (l.length : Int))).toNat (0 : Int)) < (b % (l.length : Int)))) = false → inIdx (a % (l.length : Int)) ret15v.1.length) ∧ K ((decide ((ret15v.1.getD ((a % (l.length : Int))).toNat (0 : Int)) < (b % (l.length : Int)))) || (decide ((ret15v.1.getD ((b % (l.length : Int))).toNat (0 : Int)) < (ret15v.1.getD ((a % (l.length : Int))).toNat (0 : Int)))))))))))))))))))))))

set_option maxHeartbeats 4000000 in
theorem link5 (l : (List Bool)) (a : Int) (b : Int) (K : Bool → Prop) (h : VC5 l a b K) : ACalls Try.prog 5 [toV1 (.sl .bool) l, toV1 (.int .u8) a, toV1 (.int .u8) b] (fun res => ∃ y, res = (fun y => [toV1 .bool y]) y ∧ K y) := by
  refine acalls_of_aw [.bool] [.t 6] Try.func5 rfl rfl rfl ?_
  unfold VC5 at h
  refine aw_seq ?_
  refine aw_region ?_
  refine awl_runp 1 [0, 1, 2] [] (ob := (True ∧ True)) (st' := (⟨138, [(0, [], .v (.c (.p (.sl .bool) l))), (1, [], .v (.c (.p (.int .u8) a))), (2, [], .v (.c (.p (.int .u8) b)))], []⟩ : St)) (by kernel_rfl) ⟨trivial, trivial⟩ ?_
  refine awl_nil ?_
  refine thenQ_n ?_
  refine aw_seq ?_
  refine aw_region ?_
  refine awl_runp 1 [0, 1, 2, 14] [] (ob := (True ∧ True)) (st' := (⟨138, [(0, [], .v (.c (.p (.sl .bool) l))), (1, [], .v (.c (.p (.int .u8) a))), (2, [], .v (.c (.p (.int .u8) b))), (14, [], .v (.c (.p (.sl .bool) l)))], []⟩ : St)) (by kernel_rfl) ⟨trivial, trivial⟩ ?_
  refine awl_callk (p := []) (l := [toV1 (.sl .bool) l]) (cl := []) false [.d (.sl .bool)] [0, 1, 2, 15] [] (fun (ret15v : (List Int) × Int) => VC18 l (fun (ret20v : Bool × Int) => (((decide ((60 : Int) < (l.length : Int))) = true → K ((!decide (ret15v.2 = (0 : Int))) && (!decide (ret20v.2 = (0 : Int))))) ∧ ((decide ((60 : Int) < (l.length : Int))) = false → ((((!decide (ret20v.2 = (0 : Int))) || (ret20v.1 != (decide (ret15v.2 = (0 : Int))))) = true → K false) ∧ (((!decide (ret20v.2 = (0 : Int))) || (ret20v.1 != (decide (ret15v.2 = (0 : Int))))) = false → ((((!decide (ret15v.2 = (0 : Int))) || (decide ((l.length : Int) = (0 : Int)))) = true → K (decide ((ret15v.1.length : Int) = (0 : Int)))) ∧ (((!decide (ret15v.2 = (0 : Int))) || (decide ((l.length : Int) = (0 : Int)))) = false → ((0 ≤ a ∧ 0 < (l.length : Int)) ∧ ((0 ≤ b ∧ 0 < (l.length : Int)) ∧ gcall (α := Bool) (!(!decide ((ret15v.1.length : Int) = (l.length : Int)))) (VC19 (l.length : Int) ret15v.1) false (fun (ret69v : Bool) => ((((!decide ((ret15v.1.length : Int) = (l.length : Int))) || (!ret69v)) = false → inIdx (a % (l.length : Int)) ret15v.1.length) ∧ (((!decide ((ret15v.1.length : Int) = (l.length : Int))) || (!ret69v)) = false → inIdx (ret15v.1.getD ((a % (l.length : Int))).toNat (0 : Int)) ret15v.1.length) ∧ ((((!decide ((ret15v.1.length : Int) = (l.length : Int))) || (!ret69v)) || (!decide ((ret15v.1.getD ((ret15v.1.getD ((a % (l.length : Int))).toNat (0 : Int))).toNat (0 : Int)) = (a % (l.length : Int))))) = false → inIdx (a % (l.length : Int)) ret15v.1.length) ∧ (((((!decide ((ret15v.1.length : Int) = (l.length : Int))) || (!ret69v)) || (!decide ((ret15v.1.getD ((ret15v.1.getD ((a % (l.length : Int))).toNat (0 : Int))).toNat (0 : Int)) = (a % (l.length : Int))))) || (decide ((ret15v.1.getD ((a % (l.length : Int))).toNat (0 : Int)) = (a % (l.length : Int))))) = false → inIdx (a % (l.length : Int)) l.length) ∧ (((((!decide ((ret15v.1.length : Int) = (l.length : Int))) || (!ret69v)) || (!decide ((ret15v.1.getD ((ret15v.1.getD ((a % (l.length : Int))).toNat (0 : Int))).toNat (0 : Int)) = (a % (l.length : Int))))) || (decide ((ret15v.1.getD ((a % (l.length : Int))).toNat (0 : Int)) = (a % (l.length : Int))))) = false → inIdx (a % (l.length : Int)) ret15v.1.length) ∧ (((((((!decide ((ret15v.1.length : Int) = (l.length : Int))) || (!ret69v)) || (!decide ((ret15v.1.getD ((ret15v.1.getD ((a % (l.length : Int))).toNat (0 : Int))).toNat (0 : Int)) = (a % (l.length : Int))))) || (decide ((ret15v.1.getD ((a % (l.length : Int))).toNat (0 : Int)) = (a % (l.length : Int))))) || ((l.getD ((a % (l.length : Int))).toNat false) != (decide ((a % (l.length : Int)) < (ret15v.1.getD ((a % (l.length : Int))).toNat (0 : Int)))))) = true → K false) ∧ ((((((!decide ((ret15v.1.length : Int) = (l.length : Int))) || (!ret69v)) || (!decide ((ret15v.1.getD ((ret15v.1.getD ((a % (l.length : Int))).toNat (0 : Int))).toNat (0 : Int)) = (a % (l.length : Int))))) || (decide ((ret15v.1.getD ((a % (l.length : Int))).toNat (0 : Int)) = (a % (l.length : Int))))) || ((l.getD ((a % (l.length : Int))).toNat false) != (decide ((a % (l.length : Int)) < (ret15v.1.getD ((a % (l.length : Int))).toNat (0 : Int)))))) = false → (inIdx (a % (l.length : Int)) l.length ∧ ((!(l.getD ((a % (l.length : Int))).toNat false)) = false → inIdx (b % (l.length : Int)) l.length) ∧ (((((!(l.getD ((a % (l.length : Int))).toNat false)) || (!(l.getD ((b % (l.length : Int))).toNat false))) || (decide ((b % (l.length : Int)) ≤ (a % (l.length : Int))))) = true → K true) ∧ ((((!(l.getD ((a % (l.length : Int))).toNat false)) || (!(l.getD ((b % (l.length : Int))).toNat false))) || (decide ((b % (l.length : Int)) ≤ (a % (l.length : Int))))) = false → (inIdx (a % (l.length : Int)) ret15v.1.length ∧ ((decide ((ret15v.1.getD ((a % (l.length : Int))).toNat (0 : Int)) < (b % (l.length : Int)))) = false → inIdx (b % (l.length : Int)) ret15v.1.length) ∧ ((decide ((ret15v.1.getD ((a % (l.length : Int))).toNat (0 : Int)) < (b % (l.length : Int)))) = false → inIdx (a % (l.length : Int)) ret15v.1.length) ∧ K ((decide ((ret15v.1.getD ((a % (l.length : Int))).toNat (0 : Int)) < (b % (l.length : Int)))) || (decide ((ret15v.1.getD ((b % (l.length : Int))).toNat (0 : Int)) < (ret15v.1.getD ((a % (l.length : Int))).toNat (0 : Int))))))))))))))))))))))) (fun ret15v => [toV1 (.sl (.int .i64)) ret15v.1, toV1 (.int .i64) ret15v.2]) (fun ret15v => (⟨138, [(0, [], .v (.c (.p (.sl .bool) l))), (1, [], .v (.c (.p (.int .u8) a))), (2, [], .v (.c (.p (.int .u8) b))), (15, [], .tup [.c (.p (.sl (.int .i64)) ret15v.1), .c (.p (.int .i64) ret15v.2)])], []⟩ : St)) (by kernel_rfl) rfl (by kernel_rfl) rfl (by kernel_rfl) Try.call17 (by kernel_rfl) (fun ret15v => by kernel_rfl) (fun e => by cases e) (fun hg => link17 l _ h) (fun hg => noF hg) (fun ret15v h => ?_)
  have h : VC18 l (fun (ret20v : Bool × Int) => (((decide ((60 : Int) < (l.length : Int))) = true → K ((!decide (ret15v.2 = (0 : Int))) && (!decide (ret20v.2 = (0 : Int))))) ∧ ((decide ((60 : Int) < (l.length : Int))) = false → ((((!decide (ret20v.2 = (0 : Int))) || (ret20v.1 != (decide (ret15v.2 = (0 : Int))))) = true → K false) ∧ (((!decide (ret20v.2 = (0 : Int))) || (ret20v.1 != (decide (ret15v.2 = (0 : Int))))) = false → ((((!decide (ret15v.2 = (0 : Int))) || (decide ((l.length : Int) = (0 : Int)))) = true → K (decide ((ret15v.1.length : Int) = (0 : Int)))) ∧ (((!decide (ret15v.2 = (0 : Int))) || (decide ((l.length : Int) = (0 : Int)))) = false → ((0 ≤ a ∧ 0 < (l.length : Int)) ∧ ((0 ≤ b ∧ 0 < (l.length : Int)) ∧ gcall (α := Bool) (!(!decide ((ret15v.1.length : Int) = (l.length : Int)))) (VC19 (l.length : Int) ret15v.1) false (fun (ret69v : Bool) => ((((!decide ((ret15v.1.length : Int) = (l.length : Int))) || (!ret69v)) = false → inIdx (a % (l.length : Int)) ret15v.1.length) ∧ (((!decide ((ret15v.1.length : Int) = (l.length : Int))) || (!ret69v)) = false → inIdx (ret15v.1.getD ((a % (l.length : Int))).toNat (0 : Int)) ret15v.1.length) ∧ ((((!decide ((ret15v.1.length : Int) = (l.length : Int))) || (!ret69v)) || (!decide ((ret15v.1.getD ((ret15v.1.getD ((a % (l.length : Int))).toNat (0 : Int))).toNat (0 : Int)) = (a % (l.length : Int))))) = false → inIdx (a % (l.length : Int)) ret15v.1.length) ∧ (((((!decide ((ret15v.1.length : Int) = (l.length : Int))) || (!ret69v)) || (!decide ((ret15v.1.getD ((ret15v.1.getD ((a % (l.length : Int))).toNat (0 : Int))).toNat (0 : Int)) = (a % (l.length : Int))))) || (decide ((ret15v.1.getD ((a % (l.length : Int))).toNat (0 : Int)) = (a % (l.length : Int))))) = false → inIdx (a % (l.length : Int)) l.length) ∧ (((((!decide ((ret15v.1.length : Int) = (l.length : Int))) || (!ret69v)) || (!decide ((ret15v.1.getD ((ret15v.1.getD ((a % (l.length : Int))).toNat (0 : Int))).toNat (0 : Int)) = (a % (l.length : Int))))) || (decide ((ret15v.1.getD ((a % (l.length : Int))).toNat (0 : Int)) = (a % (l.length : Int))))) = false → inIdx (a % (l.length : Int)) ret15v.1.length) ∧ (((((((!decide ((ret15v.1.length : Int) = (l.length : Int))) || (!ret69v)) || (!decide ((ret15v.1.getD ((ret15v.1.getD ((a % (l.length : Int))).toNat (0 : Int))).toNat (0 : Int)) = (a % (l.length : Int))))) || (decide ((ret15v.1.getD ((a % (l.length : Int))).toNat (0 : Int)) = (a % (l.length : Int))))) || ((l.getD ((a % (l.length : Int))).toNat false) != (decide ((a % (l.length : Int)) < (ret15v.1.getD ((a % (l.length : Int))).toNat (0 : Int)))))) = true → K false) ∧ ((((((!decide ((ret15v.1.length : Int) = (l.length : Int))) || (!ret69v)) || (!decide ((ret15v.1.getD ((ret15v.1.getD ((a % (l.length : Int))).toNat (0 : Int))).toNat (0 : Int)) = (a % (l.length : Int))))) || (decide ((ret15v.1.getD ((a % (l.length : Int))).toNat (0 : Int)) = (a % (l.length : Int))))) || ((l.getD ((a % (l.length : Int))).toNat false) != (decide ((a % (l.length : Int)) < (ret15v.1.getD ((a % (l.length : Int))).toNat (0 : Int)))))) = false → (inIdx (a % (l.length : Int)) l.length ∧ ((!(l.getD ((a % (l.length : Int))).toNat false)) = false → inIdx (b % (l.length : Int)) l.length) ∧ (((((!(l.getD ((a % (l.length : Int))).toNat false)) || (!(l.getD ((b % (l.length : Int))).toNat false))) || (decide ((b % (l.length : Int)) ≤ (a % (l.length : Int))))) = true → K true) ∧ ((((!(l.getD ((a % (l.length : Int))).toNat false)) || (!(l.getD ((b % (l.length : Int))).toNat false))) || (decide ((b % (l.length : Int)) ≤ (a % (l.length : Int))))) = false → (inIdx (a % (l.length : Int)) ret15v.1.length ∧ ((decide ((ret15v.1.getD ((a % (l.length : Int))).toNat (0 : Int)) < (b % (l.length : Int)))) = false → inIdx (b % (l.length : Int)) ret15v.1.length) ∧ ((decide ((ret15v.1.getD ((a % (l.length : Int))).toNat (0 : Int)) < (b % (l.length : Int)))) = false → inIdx (a % (l.length : Int)) ret15v.1.length) ∧ K ((decide ((ret15v.1.getD ((a % (l.length : Int))).toNat (0 : Int)) < (b % (l.length : Int)))) || (decide ((ret15v.1.getD ((b % (l.length : Int))).toNat (0 : Int)) < (ret15v.1.getD ((a % (l.length : Int))).toNat (0 : Int)))))))))))))))))))))) := h
  refine awl_runp 5 [0, 1, 2, 7, 8] [] (ob := (True ∧ True ∧ True ∧ True ∧ True ∧ True)) (st' := (⟨138, [(0, [], .v (.c (.p (.sl .bool) l))), (1, [], .v (.c (.p (.int .u8) a))), (2, [], .v (.c (.p (.int .u8) b))), (7, [], .v (.c (.p (.sl (.int .i64)) ret15v.1))), (8, [], .v (.c (.p (.int .i64) ret15v.2)))], []⟩ : St)) (by kernel_rfl) ⟨trivial, trivial, trivial, trivial, trivial, trivial⟩ ?_
  refine awl_nil ?_
  refine thenQ_n ?_
  refine aw_seq ?_
  refine aw_region ?_
  refine awl_runp 1 [0, 1, 2, 7, 8, 19] [] (ob := (True ∧ True)) (st' := (⟨138, [(0, [], .v (.c (.p (.sl .bool) l))), (1, [], .v (.c (.p (.int .u8) a))), (2, [], .v (.c (.p (.int .u8) b))), (7, [], .v (.c (.p (.sl (.int .i64)) ret15v.1))), (8, [], .v (.c (.p (.int .i64) ret15v.2))), (19, [], .v (.c (.p (.sl .bool) l)))], []⟩ : St)) (by kernel_rfl) ⟨trivial, trivial⟩ ?_
  refine awl_callk (p := []) (l := [toV1 (.sl .bool) l]) (cl := []) false [.d (.sl .bool)] [0, 1, 2, 7, 8, 20] [] (fun (ret20v : Bool × Int) => (((decide ((60 : Int) < (l.length : Int))) = true → K ((!decide (ret15v.2 = (0 : Int))) && (!decide (ret20v.2 = (0 : Int))))) ∧ ((decide ((60 : Int) < (l.length : Int))) = false → ((((!decide (ret20v.2 = (0 : Int))) || (ret20v.1 != (decide (ret15v.2 = (0 : Int))))) = true → K false) ∧ (((!decide (ret20v.2 = (0 : Int))) || (ret20v.1 != (decide (ret15v.2 = (0 : Int))))) = false → ((((!decide (ret15v.2 = (0 : Int))) || (decide ((l.length : Int) = (0 : Int)))) = true → K (decide ((ret15v.1.length : Int) = (0 : Int)))) ∧ (((!decide (ret15v.2 = (0 : Int))) || (decide ((l.length : Int) = (0 : Int)))) = false → ((0 ≤ a ∧ 0 < (l.length : Int)) ∧ ((0 ≤ b ∧ 0 < (l.length : Int)) ∧ gcall (α := Bool) (!(!decide ((ret15v.1.length : Int) = (l.length : Int)))) (VC19 (l.length : Int) ret15v.1) false (fun (ret69v : Bool) => ((((!decide ((ret15v.1.length : Int) = (l.length : Int))) || (!ret69v)) = false → inIdx (a % (l.length : Int)) ret15v.1.length) ∧ (((!decide ((ret15v.1.length : Int) = (l.length : Int))) || (!ret69v)) = false → inIdx (ret15v.1.getD ((a % (l.length : Int))).toNat (0 : Int)) ret15v.1.length) ∧ ((((!decide ((ret15v.1.length : Int) = (l.length : Int))) || (!ret69v)) || (!decide ((ret15v.1.getD ((ret15v.1.getD ((a % (l.length : Int))).toNat (0 : Int))).toNat (0 : Int)) = (a % (l.length : Int))))) = false → inIdx (a % (l.length : Int)) ret15v.1.length) ∧ (((((!decide ((ret15v.1.length : Int) = (l.length : Int))) || (!ret69v)) || (!decide ((ret15v.1.getD ((ret15v.1.getD ((a % (l.length : Int))).toNat (0 : Int))).toNat (0 : Int)) = (a % (l.length : Int))))) || (decide ((ret15v.1.getD ((a % (l.length : Int))).toNat (0 : Int)) = (a % (l.length : Int))))) = false → inIdx (a % (l.length : Int)) l.length) ∧ (((((!decide ((ret15v.1.length : Int) = (l.length : Int))) || (!ret69v)) || (!decide ((ret15v.1.getD ((ret15v.1.getD ((a % (l.length : Int))).toNat (0 : Int))).toNat (0 : Int)) = (a % (l.length : Int))))) || (decide ((ret15v.1.getD ((a % (l.length : Int))).toNat (0 : Int)) = (a % (l.length : Int))))) = false → inIdx (a % (l.length : Int)) ret15v.1.length) ∧ (((((((!decide ((ret15v.1.length : Int) = (l.length : Int))) || (!ret69v)) || (!decide ((ret15v.1.getD ((ret15v.1.getD ((a % (l.length : Int))).toNat (0 : Int))).toNat (0 : Int)) = (a % (l.length : Int))))) || (decide ((ret15v.1.getD ((a % (l.length : Int))).toNat (0 : Int)) = (a % (l.length : Int))))) || ((l.getD ((a % (l.length : Int))).toNat false) != (decide ((a % (l.length : Int)) < (ret15v.1.getD ((a % (l.length : Int))).toNat (0 : Int)))))) = true → K false) ∧ ((((((!decide ((ret15v.1.length : Int) = (l.length : Int))) || (!ret69v)) || (!decide ((ret15v.1.getD ((ret15v.1.getD ((a % (l.length : Int))).toNat (0 : Int))).toNat (0 : Int)) = (a % (l.length : Int))))) || (decide ((ret15v.1.getD ((a % (l.length : Int))).toNat (0 : Int)) = (a % (l.length : Int))))) || ((l.getD ((a % (l.length : Int))).toNat false) != (decide ((a % (l.length : Int)) < (ret15v.1.getD ((a % (l.length : Int))).toNat (0 : Int)))))) = false → (inIdx (a % (l.length : Int)) l.length ∧ ((!(l.getD ((a % (l.length : Int))).toNat false)) = false → inIdx (b % (l.length : Int)) l.length) ∧ (((((!(l.getD ((a % (l.length : Int))).toNat false)) || (!(l.getD ((b % (l.length : Int))).toNat false))) || (decide ((b % (l.length : Int)) ≤ (a % (l.length : Int))))) = true → K true) ∧ ((((!(l.getD ((a % (l.length : Int))).toNat false)) || (!(l.getD ((b % (l.length : Int))).toNat false))) || (decide ((b % (l.length : Int)) ≤ (a % (l.length : Int))))) = false → (inIdx (a % (l.length : Int)) ret15v.1.length ∧ ((decide ((ret15v.1.getD ((a % (l.length : Int))).toNat (0 : Int)) < (b % (l.length : Int)))) = false → inIdx (b % (l.length : Int)) ret15v.1.length) ∧ ((decide ((ret15v.1.getD ((a % (l.length : Int))).toNat (0 : Int)) < (b % (l.length : Int)))) = false → inIdx (a % (l.length : Int)) ret15v.1.length) ∧ K ((decide ((ret15v.1.getD ((a % (l.length : Int))).toNat (0 : Int)) < (b % (l.length : Int)))) || (decide ((ret15v.1.getD ((b % (l.length : Int))).toNat (0 : Int)) < (ret15v.1.getD ((a % (l.length : Int))).toNat (0 : Int)))))))))))))))))))))) (fun ret20v => [toV1 .bool ret20v.1, toV1 (.int .i64) ret20v.2]) (fun ret20v => (⟨138, [(0, [], .v (.c (.p (.sl .bool) l))), (1, [], .v (.c (.p (.int .u8) a))), (2, [], .v (.c (.p (.int .u8) b))), (7, [], .v (.c (.p (.sl (.int .i64)) ret15v.1))), (8, [], .v (.c (.p (.int .i64) ret15v.2))), (20, [], .tup [.c (.p .bool ret20v.1), .c (.p (.int .i64) ret20v.2)])], []⟩ : St)) (by kernel_rfl) rfl (by kernel_rfl) rfl (by kernel_rfl) Try.call18 (by kernel_rfl) (fun ret20v => by kernel_rfl) (fun e => by cases e) (fun hg => link18 l _ h) (fun hg => noF hg) (fun ret20v h => ?_)
  have h : (((decide ((60 : Int) < (l.length : Int))) = true → K ((!decide (ret15v.2 = (0 : Int))) && (!decide (ret20v.2 = (0 : Int))))) ∧ ((decide ((60 : Int) < (l.length : Int))) = false → ((((!decide (ret20v.2 = (0 : Int))) || (ret20v.1 != (decide (ret15v.2 = (0 : Int))))) = true → K false) ∧ (((!decide (ret20v.2 = (0 : Int))) || (ret20v.1 != (decide (ret15v.2 = (0 : Int))))) = false → ((((!decide (ret15v.2 = (0 : Int))) || (decide ((l.length : Int) = (0 : Int)))) = true → K (decide ((ret15v.1.length : Int) = (0 : Int)))) ∧ (((!decide (ret15v.2 = (0 : Int))) || (decide ((l.length : Int) = (0 : Int)))) = false → ((0 ≤ a ∧ 0 < (l.length : Int)) ∧ ((0 ≤ b ∧ 0 < (l.length : Int)) ∧ gcall (α := Bool) (!(!decide ((ret15v.1.length : Int) = (l.length : Int)))) (VC19 (l.length : Int) ret15v.1) false (fun (ret69v : Bool) => ((((!decide ((ret15v.1.length : Int) = (l.length : Int))) || (!ret69v)) = false → inIdx (a % (l.length : Int)) ret15v.1.length) ∧ (((!decide ((ret15v.1.length : Int) = (l.length : Int))) || (!ret69v)) = false → inIdx (ret15v.1.getD ((a % (l.length : Int))).toNat (0 : Int)) ret15v.1.length) ∧ ((((!decide ((ret15v.1.length : Int) = (l.length : Int))) || (!ret69v)) || (!decide ((ret15v.1.getD ((ret15v.1.getD ((a % (l.length : Int))).toNat (0 : Int))).toNat (0 : Int)) = (a % (l.length : Int))))) = false → inIdx (a % (l.length : Int)) ret15v.1.length) ∧ (((((!decide ((ret15v.1.length : Int) = (l.length : Int))) || (!ret69v)) || (!decide ((ret15v.1.getD ((ret15v.1.getD ((a % (l.length : Int))).toNat (0 : Int))).toNat (0 : Int)) = (a % (l.length : Int))))) || (decide ((ret15v.1.getD ((a % (l.length : Int))).toNat (0 : Int)) = (a % (l.length : Int))))) = false → inIdx (a % (l.length : Int)) l.length) ∧ (((((!decide ((ret15v.1.length : Int) = (l.length : Int))) || (!ret69v)) || (!decide ((ret15v.1.getD ((ret15v.1.getD ((a % (l.length : Int))).toNat (0 : Int))).toNat (0 : Int)) = (a % (l.length : Int))))) || (decide ((ret15v.1.getD ((a % (l.length : Int))).toNat (0 : Int)) = (a % (l.length : Int))))) = false → inIdx (a % (l.length : Int)) ret15v.1.length) ∧ (((((((!decide ((ret15v.1.length : Int) = (l.length : Int))) || (!ret69v)) || (!decide ((ret15v.1.getD ((ret15v.1.getD ((a % (l.length : Int))).toNat (0 : Int))).toNat (0 : Int)) = (a % (l.length : Int))))) || (decide ((ret15v.1.getD ((a % (l.length : Int))).toNat (0 : Int)) = (a % (l.length : Int))))) || ((l.getD ((a % (l.length : Int))).toNat false) != (decide ((a % (l.length : Int)) < (ret15v.1.getD ((a % (l.length : Int))).toNat (0 : Int)))))) = true → K false) ∧ ((((((!decide ((ret15v.1.length : Int) = (l.length : Int))) || (!ret69v)) || (!decide ((ret15v.1.getD ((ret15v.1.getD ((a % (l.length : Int))).toNat (0 : Int))).toNat (0 : Int)) = (a % (l.length : Int))))) || (decide ((ret15v.1.getD ((a % (l.length : Int))).toNat (0 : Int)) = (a % (l.length : Int))))) || ((l.getD ((a % (l.length : Int))).toNat false) != (decide ((a % (l.length : Int)) < (ret15v.1.getD ((a % (l.length : Int))).toNat (0 : Int)))))) = false → (inIdx (a % (l.length : Int)) l.length ∧ ((!(l.getD ((a % (l.length : Int))).toNat false)) = false → inIdx (b % (l.length : Int)) l.length) ∧ (((((!(l.getD ((a % (l.length : Int))).toNat false)) || (!(l.getD ((b % (l.length : Int))).toNat false))) || (decide ((b % (l.length : Int)) ≤ (a % (l.length : Int))))) = true → K true) ∧ ((((!(l.getD ((a % (l.length : Int))).toNat false)) || (!(l.getD ((b % (l.length : Int))).toNat false))) || (decide ((b % (l.length : Int)) ≤ (a % (l.length : Int))))) = false → (inIdx (a % (l.length : Int)) ret15v.1.length ∧ ((decide ((ret15v.1.getD ((a % (l.length : Int))).toNat (0 : Int)) < (b % (l.length : Int)))) = false → inIdx (b % (l.length : Int)) ret15v.1.length) ∧ ((decide ((ret15v.1.getD ((a % (l.length : Int))).toNat (0 : Int)) < (b % (l.length : Int)))) = false → inIdx (a % (l.length : Int)) ret15v.1.length) ∧ K ((decide ((ret15v.1.getD ((a % (l.length : Int))).toNat (0 : Int)) < (b % (l.length : Int)))) || (decide ((ret15v.1.getD ((b % (l.length : Int))).toNat (0 : Int)) < (ret15v.1.getD ((a % (l.length : Int))).toNat (0 : Int))))))))))))))))))))) := h
  refine awl_runp 5 [0, 1, 2, 7, 8, 9, 10] [] (ob := (True ∧ True ∧ True ∧ True ∧ True ∧ True)) (st' := (⟨138, [(0, [], .v (.c (.p (.sl .bool) l))), (1, [], .v (.c (.p (.int .u8) a))), (2, [], .v (.c (.p (.int .u8) b))), (7, [], .v (.c (.p (.sl (.int .i64)) ret15v.1))), (8, [], .v (.c (.p (.int .i64) ret15v.2))), (9, [], .v (.c (.p .bool ret20v.1))), (10, [], .v (.c (.p (.int .i64) ret20v.2)))], []⟩ : St)) (by kernel_rfl) ⟨trivial, trivial, trivial, trivial, trivial, trivial⟩ ?_
  refine awl_nil ?_
  refine thenQ_n ?_
  refine aw_seq ?_
  refine aw_seq ?_
  refine aw_region ?_
  refine awl_runp 3 [0, 1, 2, 7, 8, 9, 10, 25] [] (ob := (True ∧ True ∧ True ∧ True)) (st' := (⟨138, [(0, [], .v (.c (.p (.sl .bool) l))), (1, [], .v (.c (.p (.int .u8) a))), (2, [], .v (.c (.p (.int .u8) b))), (7, [], .v (.c (.p (.sl (.int .i64)) ret15v.1))), (8, [], .v (.c (.p (.int .i64) ret15v.2))), (9, [], .v (.c (.p .bool ret20v.1))), (10, [], .v (.c (.p (.int .i64) ret20v.2))), (25, [], .v (.c (.p .bool (decide ((60 : Int) < (l.length : Int))))))], []⟩ : St)) (by kernel_rfl) ⟨trivial, trivial, trivial, trivial⟩ ?_
  refine awl_nil ?_
  refine thenQ_n ?_
  refine aw_cond (b := (decide ((60 : Int) < (l.length : Int)))) (by kernel_rfl) (fun hb => ?_) (fun hb => ?_)
  · have h := h.1 hb
    refine aw_seq ?_
    refine aw_region ?_
    refine awl_runp 7 [6] [] (ob := (True ∧ True ∧ True ∧ ((!decide (ret15v.2 = (0 : Int))) = true → True) ∧ ((!decide (ret15v.2 = (0 : Int))) = true → True) ∧ True ∧ True ∧ True)) (st' := (⟨138, [(6, [], .v (.c (.p .bool ((!decide (ret15v.2 = (0 : Int))) && (!decide (ret20v.2 = (0 : Int)))))))], []⟩ : St)) (by kernel_rfl) ⟨trivial, trivial, trivial, (fun _ => trivial), (fun _ => trivial), trivial, trivial, trivial⟩ ?_
    refine awl_nil ?_
    refine thenQ_n ?_
    refine aw_ret ?_
    refine thenQ_r ?_
    exact retQ_r (σ := Bool) (R := (fun y => [toV1 .bool y])) (ob := (True ∧ True)) ((!decide (ret15v.2 = (0 : Int))) && (!decide (ret20v.2 = (0 : Int)))) (by kernel_rfl) ⟨trivial, trivial⟩ h
  · have h := h.2 hb
    refine aw_skip ?_
    refine thenQ_n ?_
    refine aw_seq ?_
    refine aw_seq ?_
    refine aw_region ?_
    refine awl_runp 8 [0, 1, 2, 7, 8, 39] [] (ob := (True ∧ True ∧ True ∧ ((!decide (ret20v.2 = (0 : Int))) = false → True) ∧ ((!decide (ret20v.2 = (0 : Int))) = false → True) ∧ ((!decide (ret20v.2 = (0 : Int))) = false → True) ∧ ((!decide (ret20v.2 = (0 : Int))) = false → True) ∧ True ∧ True)) (st' := (⟨138, [(0, [], .v (.c (.p (.sl .bool) l))), (1, [], .v (.c (.p (.int .u8) a))), (2, [], .v (.c (.p (.int .u8) b))), (7, [], .v (.c (.p (.sl (.int .i64)) ret15v.1))), (8, [], .v (.c (.p (.int .i64) ret15v.2))), (39, [], .v (.c (.p .bool ((!decide (ret20v.2 = (0 : Int))) || (ret20v.1 != (decide (ret15v.2 = (0 : Int))))))))], []⟩ : St)) (by kernel_rfl) ⟨trivial, trivial, trivial, (fun _ => trivial), (fun _ => trivial), (fun _ => trivial), (fun _ => trivial), trivial, trivial⟩ ?_
    refine awl_nil ?_
    refine thenQ_n ?_
    refine aw_cond (b := ((!decide (ret20v.2 = (0 : Int))) || (ret20v.1 != (decide (ret15v.2 = (0 : Int)))))) (by kernel_rfl) (fun hb => ?_) (fun hb => ?_)
    · have h := h.1 hb
      refine aw_seq ?_
      refine aw_region ?_
      refine awl_runp 1 [6] [] (ob := (True ∧ True)) (st' := (⟨138, [(6, [], .v (.c (.p .bool false)))], []⟩ : St)) (by kernel_rfl) ⟨trivial, trivial⟩ ?_
      refine awl_nil ?_
      refine thenQ_n ?_
      refine aw_ret ?_
      refine thenQ_r ?_
      exact retQ_r (σ := Bool) (R := (fun y => [toV1 .bool y])) (ob := (True ∧ True)) false (by kernel_rfl) ⟨trivial, trivial⟩ h
    · have h := h.2 hb
      refine aw_skip ?_
      refine thenQ_n ?_
      refine aw_seq ?_
      refine aw_seq ?_
      refine aw_region ?_
      refine awl_runp 7 [0, 1, 2, 7, 46] [] (ob := (True ∧ True ∧ True ∧ ((!decide (ret15v.2 = (0 : Int))) = false → True) ∧ ((!decide (ret15v.2 = (0 : Int))) = false → True) ∧ ((!decide (ret15v.2 = (0 : Int))) = false → True) ∧ True ∧ True)) (st' := (⟨138, [(0, [], .v (.c (.p (.sl .bool) l))), (1, [], .v (.c (.p (.int .u8) a))), (2, [], .v (.c (.p (.int .u8) b))), (7, [], .v (.c (.p (.sl (.int .i64)) ret15v.1))), (46, [], .v (.c (.p .bool ((!decide (ret15v.2 = (0 : Int))) || (decide ((l.length : Int) = (0 : Int)))))))], []⟩ : St)) (by kernel_rfl) ⟨trivial, trivial, trivial, (fun _ => trivial), (fun _ => trivial), (fun _ => trivial), trivial, trivial⟩ ?_
      refine awl_nil ?_
      refine thenQ_n ?_
      refine aw_cond (b := ((!decide (ret15v.2 = (0 : Int))) || (decide ((l.length : Int) = (0 : Int))))) (by kernel_rfl) (fun hb => ?_) (fun hb => ?_)
      · have h := h.1 hb
        refine aw_seq ?_
        refine aw_region ?_
        refine awl_runp 4 [6] [] (ob := (True ∧ True ∧ True ∧ True ∧ True)) (st' := (⟨138, [(6, [], .v (.c (.p .bool (decide ((ret15v.1.length : Int) = (0 : Int))))))], []⟩ : St)) (by kernel_rfl) ⟨trivial, trivial, trivial, trivial, trivial⟩ ?_
        refine awl_nil ?_
        refine thenQ_n ?_
        refine aw_ret ?_
        refine thenQ_r ?_
        exact retQ_r (σ := Bool) (R := (fun y => [toV1 .bool y])) (ob := (True ∧ True)) (decide ((ret15v.1.length : Int) = (0 : Int))) (by kernel_rfl) ⟨trivial, trivial⟩ h
      · have h := h.2 hb
        refine aw_skip ?_
        refine thenQ_n ?_
        refine aw_seq ?_
        refine aw_region ?_
        obtain ⟨o1, h⟩ := h
        refine awl_runp 6 [0, 2, 7, 11] [] (ob := (True ∧ True ∧ True ∧ True ∧ (0 ≤ a ∧ 0 < (l.length : Int)) ∧ True ∧ True)) (st' := (⟨138, [(0, [], .v (.c (.p (.sl .bool) l))), (2, [], .v (.c (.p (.int .u8) b))), (7, [], .v (.c (.p (.sl (.int .i64)) ret15v.1))), (11, [], .v (.c (.p (.int .i64) (a % (l.length : Int)))))], []⟩ : St)) (by kernel_rfl) ⟨trivial, trivial, trivial, trivial, o1, trivial, trivial⟩ ?_
        refine awl_nil ?_
        refine thenQ_n ?_
        refine aw_seq ?_
        refine aw_region ?_
        obtain ⟨o1, h⟩ := h
        refine awl_runp 6 [0, 7, 11, 12] [] (ob := (True ∧ True ∧ True ∧ True ∧ (0 ≤ b ∧ 0 < (l.length : Int)) ∧ True ∧ True)) (st' := (⟨138, [(0, [], .v (.c (.p (.sl .bool) l))), (7, [], .v (.c (.p (.sl (.int .i64)) ret15v.1))), (11, [], .v (.c (.p (.int .i64) (a % (l.length : Int))))), (12, [], .v (.c (.p (.int .i64) (b % (l.length : Int)))))], []⟩ : St)) (by kernel_rfl) ⟨trivial, trivial, trivial, trivial, o1, trivial, trivial⟩ ?_
        refine awl_nil ?_
        refine thenQ_n ?_
        refine aw_seq ?_
        refine aw_seq ?_
        refine awd_begin [] (by kernel_rfl) ?_
        refine awd_runp (by kernel_rfl) [0, 1, 2, 3, 4, 5, 6, 7, 8] [0, 7, 11, 12, 65, 67, 68] [] (ob := (True ∧ True ∧ True ∧ True ∧ True ∧ True ∧ ((!decide ((ret15v.1.length : Int) = (l.length : Int))) = false → True) ∧ ((!decide ((ret15v.1.length : Int) = (l.length : Int))) = false → True) ∧ ((!decide ((ret15v.1.length : Int) = (l.length : Int))) = false → True) ∧ True)) (done' := [8, 7, 6, 5, 4, 3, 2, 1, 0]) (st' := (⟨138, [(0, [], .v (.c (.p (.sl .bool) l))), (7, [], .v (.c (.p (.sl (.int .i64)) ret15v.1))), (11, [], .v (.c (.p (.int .i64) (a % (l.length : Int))))), (12, [], .v (.c (.p (.int .i64) (b % (l.length : Int))))), (65, [], .v (.c (.p .bool (!decide ((ret15v.1.length : Int) = (l.length : Int)))))), (67, [(65, false)], .v (.c (.p (.int .i64) (l.length : Int)))), (68, [(65, false)], .v (.c (.p (.sl (.int .i64)) ret15v.1)))], []⟩ : St)) (by kernel_rfl) ⟨trivial, trivial, trivial, trivial, trivial, trivial, (fun _ => trivial), (fun _ => trivial), (fun _ => trivial), trivial⟩ ?_
        refine awd_one (i := 9) (by kernel_rfl) ?_
        refine adop_callk (p := [(65, false)]) (l := [toV1 (.int .i64) (l.length : Int), toV1 (.sl (.int .i64)) ret15v.1]) (cl := []) false [.d (.int .i64), .d (.sl (.int .i64))] [0, 7, 11, 12, 65, 69] [] (fun (ret69v : Bool) => ((((!decide ((ret15v.1.length : Int) = (l.length : Int))) || (!ret69v)) = false → inIdx (a % (l.length : Int)) ret15v.1.length) ∧ (((!decide ((ret15v.1.length : Int) = (l.length : Int))) || (!ret69v)) = false → inIdx (ret15v.1.getD ((a % (l.length : Int))).toNat (0 : Int)) ret15v.1.length) ∧ ((((!decide ((ret15v.1.length : Int) = (l.length : Int))) || (!ret69v)) || (!decide ((ret15v.1.getD ((ret15v.1.getD ((a % (l.length : Int))).toNat (0 : Int))).toNat (0 : Int)) = (a % (l.length : Int))))) = false → inIdx (a % (l.length : Int)) ret15v.1.length) ∧ (((((!decide ((ret15v.1.length : Int) = (l.length : Int))) || (!ret69v)) || (!decide ((ret15v.1.getD ((ret15v.1.getD ((a % (l.length : Int))).toNat (0 : Int))).toNat (0 : Int)) = (a % (l.length : Int))))) || (decide ((ret15v.1.getD ((a % (l.length : Int))).toNat (0 : Int)) = (a % (l.length : Int))))) = false → inIdx (a % (l.length : Int)) l.length) ∧ (((((!decide ((ret15v.1.length : Int) = (l.length : Int))) || (!ret69v)) || (!decide ((ret15v.1.getD ((ret15v.1.getD ((a % (l.length : Int))).toNat (0 : Int))).toNat (0 : Int)) = (a % (l.length : Int))))) || (decide ((ret15v.1.getD ((a % (l.length : Int))).toNat (0 : Int)) = (a % (l.length : Int))))) = false → inIdx (a % (l.length : Int)) ret15v.1.length) ∧ (((((((!decide ((ret15v.1.length : Int) = (l.length : Int))) || (!ret69v)) || (!decide ((ret15v.1.getD ((ret15v.1.getD ((a % (l.length : Int))).toNat (0 : Int))).toNat (0 : Int)) = (a % (l.length : Int))))) || (decide ((ret15v.1.getD ((a % (l.length : Int))).toNat (0 : Int)) = (a % (l.length : Int))))) || ((l.getD ((a % (l.length : Int))).toNat false) != (decide ((a % (l.length : Int)) < (ret15v.1.getD ((a % (l.length : Int))).toNat (0 : Int)))))) = true → K false) ∧ ((((((!decide ((ret15v.1.length : Int) = (l.length : Int))) || (!ret69v)) || (!decide ((ret15v.1.getD ((ret15v.1.getD ((a % (l.length : Int))).toNat (0 : Int))).toNat (0 : Int)) = (a % (l.length : Int))))) || (decide ((ret15v.1.getD ((a % (l.length : Int))).toNat (0 : Int)) = (a % (l.length : Int))))) || ((l.getD ((a % (l.length : Int))).toNat false) != (decide ((a % (l.length : Int)) < (ret15v.1.getD ((a % (l.length : Int))).toNat (0 : Int)))))) = false → (inIdx (a % (l.length : Int)) l.length ∧ ((!(l.getD ((a % (l.length : Int))).toNat false)) = false → inIdx (b % (l.length : Int)) l.length) ∧ (((((!(l.getD ((a % (l.length : Int))).toNat false)) || (!(l.getD ((b % (l.length : Int))).toNat false))) || (decide ((b % (l.length : Int)) ≤ (a % (l.length : Int))))) = true → K true) ∧ ((((!(l.getD ((a % (l.length : Int))).toNat false)) || (!(l.getD ((b % (l.length : Int))).toNat false))) || (decide ((b % (l.length : Int)) ≤ (a % (l.length : Int))))) = false → (inIdx (a % (l.length : Int)) ret15v.1.length ∧ ((decide ((ret15v.1.getD ((a % (l.length : Int))).toNat (0 : Int)) < (b % (l.length : Int)))) = false → inIdx (b % (l.length : Int)) ret15v.1.length) ∧ ((decide ((ret15v.1.getD ((a % (l.length : Int))).toNat (0 : Int)) < (b % (l.length : Int)))) = false → inIdx (a % (l.length : Int)) ret15v.1.length) ∧ K ((decide ((ret15v.1.getD ((a % (l.length : Int))).toNat (0 : Int)) < (b % (l.length : Int)))) || (decide ((ret15v.1.getD ((b % (l.length : Int))).toNat (0 : Int)) < (ret15v.1.getD ((a % (l.length : Int))).toNat (0 : Int))))))))))))) (fun ret69v => [toV1 .bool ret69v]) (fun ret69v => (⟨138, [(0, [], .v (.c (.p (.sl .bool) l))), (7, [], .v (.c (.p (.sl (.int .i64)) ret15v.1))), (11, [], .v (.c (.p (.int .i64) (a % (l.length : Int))))), (12, [], .v (.c (.p (.int .i64) (b % (l.length : Int))))), (65, [], .v (.c (.p .bool (!decide ((ret15v.1.length : Int) = (l.length : Int)))))), (69, [(65, false)], .v (.c (.p .bool ret69v)))], []⟩ : St)) rfl (by kernel_rfl) rfl (by kernel_rfl) rfl (by kernel_rfl) Try.call19 (by kernel_rfl) (fun ret69v => by kernel_rfl) (fun e => by cases e) (fun hg => link19 (l.length : Int) ret15v.1 _ (by have := gcall_T h (show (!(!decide ((ret15v.1.length : Int) = (l.length : Int)))) = true from hg); exact this)) (fun hg => ⟨false, by have := gcall_F h (show (!(!decide ((ret15v.1.length : Int) = (l.length : Int)))) = false from hg); exact this⟩) (fun ret69v h => ?_)
        have h : ((((!decide ((ret15v.1.length : Int) = (l.length : Int))) || (!ret69v)) = false → inIdx (a % (l.length : Int)) ret15v.1.length) ∧ (((!decide ((ret15v.1.length : Int) = (l.length : Int))) || (!ret69v)) = false → inIdx (ret15v.1.getD ((a % (l.length : Int))).toNat (0 : Int)) ret15v.1.length) ∧ ((((!decide ((ret15v.1.length : Int) = (l.length : Int))) || (!ret69v)) || (!decide ((ret15v.1.getD ((ret15v.1.getD ((a % (l.length : Int))).toNat (0 : Int))).toNat (0 : Int)) = (a % (l.length : Int))))) = false → inIdx (a % (l.length : Int)) ret15v.1.length) ∧ (((((!decide ((ret15v.1.length : Int) = (l.length : Int))) || (!ret69v)) || (!decide ((ret15v.1.getD ((ret15v.1.getD ((a % (l.length : Int))).toNat (0 : Int))).toNat (0 : Int)) = (a % (l.length : Int))))) || (decide ((ret15v.1.getD ((a % (l.length : Int))).toNat (0 : Int)) = (a % (l.length : Int))))) = false → inIdx (a % (l.length : Int)) l.length) ∧ (((((!decide ((ret15v.1.length : Int) = (l.length : Int))) || (!ret69v)) || (!decide ((ret15v.1.getD ((ret15v.1.getD ((a % (l.length : Int))).toNat (0 : Int))).toNat (0 : Int)) = (a % (l.length : Int))))) || (decide ((ret15v.1.getD ((a % (l.length : Int))).toNat (0 : Int)) = (a % (l.length : Int))))) = false → inIdx (a % (l.length : Int)) ret15v.1.length) ∧ (((((((!decide ((ret15v.1.length : Int) = (l.length : Int))) || (!ret69v)) || (!decide ((ret15v.1.getD ((ret15v.1.getD ((a % (l.length : Int))).toNat (0 : Int))).toNat (0 : Int)) = (a % (l.length : Int))))) || (decide ((ret15v.1.getD ((a % (l.length : Int))).toNat (0 : Int)) = (a % (l.length : Int))))) || ((l.getD ((a % (l.length : Int))).toNat false) != (decide ((a % (l.length : Int)) < (ret15v.1.getD ((a % (l.length : Int))).toNat (0 : Int)))))) = true → K false) ∧ ((((((!decide ((ret15v.1.length : Int) = (l.length : Int))) || (!ret69v)) || (!decide ((ret15v.1.getD ((ret15v.1.getD ((a % (l.length : Int))).toNat (0 : Int))).toNat (0 : Int)) = (a % (l.length : Int))))) || (decide ((ret15v.1.getD ((a % (l.length : Int))).toNat (0 : Int)) = (a % (l.length : Int))))) || ((l.getD ((a % (l.length : Int))).toNat false) != (decide ((a % (l.length : Int)) < (ret15v.1.getD ((a % (l.length : Int))).toNat (0 : Int)))))) = false → (inIdx (a % (l.length : Int)) l.length ∧ ((!(l.getD ((a % (l.length : Int))).toNat false)) = false → inIdx (b % (l.length : Int)) l.length) ∧ (((((!(l.getD ((a % (l.length : Int))).toNat false)) || (!(l.getD ((b % (l.length : Int))).toNat false))) || (decide ((b % (l.length : Int)) ≤ (a % (l.length : Int))))) = true → K true) ∧ ((((!(l.getD ((a % (l.length : Int))).toNat false)) || (!(l.getD ((b % (l.length : Int))).toNat false))) || (decide ((b % (l.length : Int)) ≤ (a % (l.length : Int))))) = false → (inIdx (a % (l.length : Int)) ret15v.1.length ∧ ((decide ((ret15v.1.getD ((a % (l.length : Int))).toNat (0 : Int)) < (b % (l.length : Int)))) = false → inIdx (b % (l.length : Int)) ret15v.1.length) ∧ ((decide ((ret15v.1.getD ((a % (l.length : Int))).toNat (0 : Int)) < (b % (l.length : Int)))) = false → inIdx (a % (l.length : Int)) ret15v.1.length) ∧ K ((decide ((ret15v.1.getD ((a % (l.length : Int))).toNat (0 : Int)) < (b % (l.length : Int)))) || (decide ((ret15v.1.getD ((b % (l.length : Int))).toNat (0 : Int)) < (ret15v.1.getD ((a % (l.length : Int))).toNat (0 : Int)))))))))))) := h
        obtain ⟨o1, o2, o3, o4, o5, h⟩ := h
        refine awd_runp (by kernel_rfl) [10, 11, 12, 13, 14, 15, 16, 17, 18, 19, 20, 21, 22, 23, 24, 25, 26, 27, 28, 29, 30, 31, 32, 33, 34, 35, 36, 37, 38, 39, 40, 41, 42, 43] [0, 7, 11, 12, 103] [] (ob := (((!decide ((ret15v.1.length : Int) = (l.length : Int))) = false → True) ∧ True ∧ True ∧ (((!decide ((ret15v.1.length : Int) = (l.length : Int))) || (!ret69v)) = false → True) ∧ (((!decide ((ret15v.1.length : Int) = (l.length : Int))) || (!ret69v)) = false → True) ∧ (((!decide ((ret15v.1.length : Int) = (l.length : Int))) || (!ret69v)) = false → True) ∧ (((!decide ((ret15v.1.length : Int) = (l.length : Int))) || (!ret69v)) = false → inIdx (a % (l.length : Int)) ret15v.1.length) ∧ (((!decide ((ret15v.1.length : Int) = (l.length : Int))) || (!ret69v)) = false → True) ∧ (((!decide ((ret15v.1.length : Int) = (l.length : Int))) || (!ret69v)) = false → inIdx (ret15v.1.getD ((a % (l.length : Int))).toNat (0 : Int)) ret15v.1.length) ∧ (((!decide ((ret15v.1.length : Int) = (l.length : Int))) || (!ret69v)) = false → True) ∧ (((!decide ((ret15v.1.length : Int) = (l.length : Int))) || (!ret69v)) = false → True) ∧ (((!decide ((ret15v.1.length : Int) = (l.length : Int))) || (!ret69v)) = false → True) ∧ True ∧ True ∧ ((((!decide ((ret15v.1.length : Int) = (l.length : Int))) || (!ret69v)) || (!decide ((ret15v.1.getD ((ret15v.1.getD ((a % (l.length : Int))).toNat (0 : Int))).toNat (0 : Int)) = (a % (l.length : Int))))) = false → True) ∧ ((((!decide ((ret15v.1.length : Int) = (l.length : Int))) || (!ret69v)) || (!decide ((ret15v.1.getD ((ret15v.1.getD ((a % (l.length : Int))).toNat (0 : Int))).toNat (0 : Int)) = (a % (l.length : Int))))) = false → True) ∧ ((((!decide ((ret15v.1.length : Int) = (l.length : Int))) || (!ret69v)) || (!decide ((ret15v.1.getD ((ret15v.1.getD ((a % (l.length : Int))).toNat (0 : Int))).toNat (0 : Int)) = (a % (l.length : Int))))) = false → inIdx (a % (l.length : Int)) ret15v.1.length) ∧ ((((!decide ((ret15v.1.length : Int) = (l.length : Int))) || (!ret69v)) || (!decide ((ret15v.1.getD ((ret15v.1.getD ((a % (l.length : Int))).toNat (0 : Int))).toNat (0 : Int)) = (a % (l.length : Int))))) = false → True) ∧ ((((!decide ((ret15v.1.length : Int) = (l.length : Int))) || (!ret69v)) || (!decide ((ret15v.1.getD ((ret15v.1.getD ((a % (l.length : Int))).toNat (0 : Int))).toNat (0 : Int)) = (a % (l.length : Int))))) = false → True) ∧ ((((!decide ((ret15v.1.length : Int) = (l.length : Int))) || (!ret69v)) || (!decide ((ret15v.1.getD ((ret15v.1.getD ((a % (l.length : Int))).toNat (0 : Int))).toNat (0 : Int)) = (a % (l.length : Int))))) = false → True) ∧ True ∧ True ∧ (((((!decide ((ret15v.1.length : Int) = (l.length : Int))) || (!ret69v)) || (!decide ((ret15v.1.getD ((ret15v.1.getD ((a % (l.length : Int))).toNat (0 : Int))).toNat (0 : Int)) = (a % (l.length : Int))))) || (decide ((ret15v.1.getD ((a % (l.length : Int))).toNat (0 : Int)) = (a % (l.length : Int))))) = false → True) ∧ (((((!decide ((ret15v.1.length : Int) = (l.length : Int))) || (!ret69v)) || (!decide ((ret15v.1.getD ((ret15v.1.getD ((a % (l.length : Int))).toNat (0 : Int))).toNat (0 : Int)) = (a % (l.length : Int))))) || (decide ((ret15v.1.getD ((a % (l.length : Int))).toNat (0 : Int)) = (a % (l.length : Int))))) = false → True) ∧ (((((!decide ((ret15v.1.length : Int) = (l.length : Int))) || (!ret69v)) || (!decide ((ret15v.1.getD ((ret15v.1.getD ((a % (l.length : Int))).toNat (0 : Int))).toNat (0 : Int)) = (a % (l.length : Int))))) || (decide ((ret15v.1.getD ((a % (l.length : Int))).toNat (0 : Int)) = (a % (l.length : Int))))) = false → inIdx (a % (l.length : Int)) l.length) ∧ (((((!decide ((ret15v.1.length : Int) = (l.length : Int))) || (!ret69v)) || (!decide ((ret15v.1.getD ((ret15v.1.getD ((a % (l.length : Int))).toNat (0 : Int))).toNat (0 : Int)) = (a % (l.length : Int))))) || (decide ((ret15v.1.getD ((a % (l.length : Int))).toNat (0 : Int)) = (a % (l.length : Int))))) = false → True) ∧ (((((!decide ((ret15v.1.length : Int) = (l.length : Int))) || (!ret69v)) || (!decide ((ret15v.1.getD ((ret15v.1.getD ((a % (l.length : Int))).toNat (0 : Int))).toNat (0 : Int)) = (a % (l.length : Int))))) || (decide ((ret15v.1.getD ((a % (l.length : Int))).toNat (0 : Int)) = (a % (l.length : Int))))) = false → True) ∧ (((((!decide ((ret15v.1.length : Int) = (l.length : Int))) || (!ret69v)) || (!decide ((ret15v.1.getD ((ret15v.1.getD ((a % (l.length : Int))).toNat (0 : Int))).toNat (0 : Int)) = (a % (l.length : Int))))) || (decide ((ret15v.1.getD ((a % (l.length : Int))).toNat (0 : Int)) = (a % (l.length : Int))))) = false → True) ∧ (((((!decide ((ret15v.1.length : Int) = (l.length : Int))) || (!ret69v)) || (!decide ((ret15v.1.getD ((ret15v.1.getD ((a % (l.length : Int))).toNat (0 : Int))).toNat (0 : Int)) = (a % (l.length : Int))))) || (decide ((ret15v.1.getD ((a % (l.length : Int))).toNat (0 : Int)) = (a % (l.length : Int))))) = false → inIdx (a % (l.length : Int)) ret15v.1.length) ∧ (((((!decide ((ret15v.1.length : Int) = (l.length : Int))) || (!ret69v)) || (!decide ((ret15v.1.getD ((ret15v.1.getD ((a % (l.length : Int))).toNat (0 : Int))).toNat (0 : Int)) = (a % (l.length : Int))))) || (decide ((ret15v.1.getD ((a % (l.length : Int))).toNat (0 : Int)) = (a % (l.length : Int))))) = false → True) ∧ (((((!decide ((ret15v.1.length : Int) = (l.length : Int))) || (!ret69v)) || (!decide ((ret15v.1.getD ((ret15v.1.getD ((a % (l.length : Int))).toNat (0 : Int))).toNat (0 : Int)) = (a % (l.length : Int))))) || (decide ((ret15v.1.getD ((a % (l.length : Int))).toNat (0 : Int)) = (a % (l.length : Int))))) = false → True) ∧ (((((!decide ((ret15v.1.length : Int) = (l.length : Int))) || (!ret69v)) || (!decide ((ret15v.1.getD ((ret15v.1.getD ((a % (l.length : Int))).toNat (0 : Int))).toNat (0 : Int)) = (a % (l.length : Int))))) || (decide ((ret15v.1.getD ((a % (l.length : Int))).toNat (0 : Int)) = (a % (l.length : Int))))) = false → True) ∧ (((((!decide ((ret15v.1.length : Int) = (l.length : Int))) || (!ret69v)) || (!decide ((ret15v.1.getD ((ret15v.1.getD ((a % (l.length : Int))).toNat (0 : Int))).toNat (0 : Int)) = (a % (l.length : Int))))) || (decide ((ret15v.1.getD ((a % (l.length : Int))).toNat (0 : Int)) = (a % (l.length : Int))))) = false → True) ∧ True ∧ True)) (done' := [43, 42, 41, 40, 39, 38, 37, 36, 35, 34, 33, 32, 31, 30, 29, 28, 27, 26, 25, 24, 23, 22, 21, 20, 19, 18, 17, 16, 15, 14, 13, 12, 11, 10, 9, 8, 7, 6, 5, 4, 3, 2, 1, 0]) (st' := (⟨138, [(0, [], .v (.c (.p (.sl .bool) l))), (7, [], .v (.c (.p (.sl (.int .i64)) ret15v.1))), (11, [], .v (.c (.p (.int .i64) (a % (l.length : Int))))), (12, [], .v (.c (.p (.int .i64) (b % (l.length : Int))))), (103, [], .v (.c (.p .bool (((((!decide ((ret15v.1.length : Int) = (l.length : Int))) || (!ret69v)) || (!decide ((ret15v.1.getD ((ret15v.1.getD ((a % (l.length : Int))).toNat (0 : Int))).toNat (0 : Int)) = (a % (l.length : Int))))) || (decide ((ret15v.1.getD ((a % (l.length : Int))).toNat (0 : Int)) = (a % (l.length : Int))))) || ((l.getD ((a % (l.length : Int))).toNat false) != (decide ((a % (l.length : Int)) < (ret15v.1.getD ((a % (l.length : Int))).toNat (0 : Int)))))))))], []⟩ : St)) (by kernel_rfl) ⟨(fun _ => trivial), trivial, trivial, (fun _ => trivial), (fun _ => trivial), (fun _ => trivial), o1, (fun _ => trivial), o2, (fun _ => trivial), (fun _ => trivial), (fun _ => trivial), trivial, trivial, (fun _ => trivial), (fun _ => trivial), o3, (fun _ => trivial), (fun _ => trivial), (fun _ => trivial), trivial, trivial, (fun _ => trivial), (fun _ => trivial), o4, (fun _ => trivial), (fun _ => trivial), (fun _ => trivial), o5, (fun _ => trivial), (fun _ => trivial), (fun _ => trivial), (fun _ => trivial), trivial, trivial⟩ ?_
        refine awd_done (by kernel_rfl) ?_
        refine thenQ_n ?_
        refine aw_cond (b := (((((!decide ((ret15v.1.length : Int) = (l.length : Int))) || (!ret69v)) || (!decide ((ret15v.1.getD ((ret15v.1.getD ((a % (l.length : Int))).toNat (0 : Int))).toNat (0 : Int)) = (a % (l.length : Int))))) || (decide ((ret15v.1.getD ((a % (l.length : Int))).toNat (0 : Int)) = (a % (l.length : Int))))) || ((l.getD ((a % (l.length : Int))).toNat false) != (decide ((a % (l.length : Int)) < (ret15v.1.getD ((a % (l.length : Int))).toNat (0 : Int))))))) (by kernel_rfl) (fun hb => ?_) (fun hb => ?_)
        · have h := h.1 hb
          refine aw_seq ?_
          refine aw_region ?_
          refine awl_runp 1 [6] [] (ob := (True ∧ True)) (st' := (⟨138, [(6, [], .v (.c (.p .bool false)))], []⟩ : St)) (by kernel_rfl) ⟨trivial, trivial⟩ ?_
          refine awl_nil ?_
          refine thenQ_n ?_
          refine aw_ret ?_
          refine thenQ_r ?_
          exact retQ_r (σ := Bool) (R := (fun y => [toV1 .bool y])) (ob := (True ∧ True)) false (by kernel_rfl) ⟨trivial, trivial⟩ h
        · have h := h.2 hb
          refine aw_skip ?_
          refine thenQ_n ?_
          refine aw_seq ?_
          refine aw_seq ?_
          refine aw_region ?_
          obtain ⟨o1, o2, h⟩ := h
          refine awl_runp 17 [7, 11, 12, 120] [] (ob := (True ∧ True ∧ inIdx (a % (l.length : Int)) l.length ∧ True ∧ True ∧ True ∧ ((!(l.getD ((a % (l.length : Int))).toNat false)) = false → True) ∧ ((!(l.getD ((a % (l.length : Int))).toNat false)) = false → True) ∧ ((!(l.getD ((a % (l.length : Int))).toNat false)) = false → inIdx (b % (l.length : Int)) l.length) ∧ ((!(l.getD ((a % (l.length : Int))).toNat false)) = false → True) ∧ ((!(l.getD ((a % (l.length : Int))).toNat false)) = false → True) ∧ True ∧ True ∧ (((!(l.getD ((a % (l.length : Int))).toNat false)) || (!(l.getD ((b % (l.length : Int))).toNat false))) = false → True) ∧ (((!(l.getD ((a % (l.length : Int))).toNat false)) || (!(l.getD ((b % (l.length : Int))).toNat false))) = false → True) ∧ (((!(l.getD ((a % (l.length : Int))).toNat false)) || (!(l.getD ((b % (l.length : Int))).toNat false))) = false → True) ∧ True ∧ True)) (st' := (⟨138, [(7, [], .v (.c (.p (.sl (.int .i64)) ret15v.1))), (11, [], .v (.c (.p (.int .i64) (a % (l.length : Int))))), (12, [], .v (.c (.p (.int .i64) (b % (l.length : Int))))), (120, [], .v (.c (.p .bool (((!(l.getD ((a % (l.length : Int))).toNat false)) || (!(l.getD ((b % (l.length : Int))).toNat false))) || (decide ((b % (l.length : Int)) ≤ (a % (l.length : Int))))))))], []⟩ : St)) (by kernel_rfl) ⟨trivial, trivial, o1, trivial, trivial, trivial, (fun _ => trivial), (fun _ => trivial), o2, (fun _ => trivial), (fun _ => trivial), trivial, trivial, (fun _ => trivial), (fun _ => trivial), (fun _ => trivial), trivial, trivial⟩ ?_
          refine awl_nil ?_
          refine thenQ_n ?_
          refine aw_cond (b := (((!(l.getD ((a % (l.length : Int))).toNat false)) || (!(l.getD ((b % (l.length : Int))).toNat false))) || (decide ((b % (l.length : Int)) ≤ (a % (l.length : Int)))))) (by kernel_rfl) (fun hb => ?_) (fun hb => ?_)
          · have h := h.1 hb
            refine aw_seq ?_
            refine aw_region ?_
            refine awl_runp 1 [6] [] (ob := (True ∧ True)) (st' := (⟨138, [(6, [], .v (.c (.p .bool true)))], []⟩ : St)) (by kernel_rfl) ⟨trivial, trivial⟩ ?_
            refine awl_nil ?_
            refine thenQ_n ?_
            refine aw_ret ?_
            refine thenQ_r ?_
            exact retQ_r (σ := Bool) (R := (fun y => [toV1 .bool y])) (ob := (True ∧ True)) true (by kernel_rfl) ⟨trivial, trivial⟩ h
          · have h := h.2 hb
            refine aw_skip ?_
            refine thenQ_n ?_
            refine aw_seq ?_
            refine awd_begin [] (by kernel_rfl) ?_
            obtain ⟨o1, o2, o3, h⟩ := h
            refine awd_runp (by kernel_rfl) [0, 1, 2, 3, 4, 5, 6, 7, 8, 9, 10, 11, 12, 13, 14, 15, 16, 17] [6] [] (ob := (True ∧ True ∧ inIdx (a % (l.length : Int)) ret15v.1.length ∧ True ∧ True ∧ True ∧ True ∧ ((decide ((ret15v.1.getD ((a % (l.length : Int))).toNat (0 : Int)) < (b % (l.length : Int)))) = false → True) ∧ ((decide ((ret15v.1.getD ((a % (l.length : Int))).toNat (0 : Int)) < (b % (l.length : Int)))) = false → True) ∧ ((decide ((ret15v.1.getD ((a % (l.length : Int))).toNat (0 : Int)) < (b % (l.length : Int)))) = false → inIdx (b % (l.length : Int)) ret15v.1.length) ∧ ((decide ((ret15v.1.getD ((a % (l.length : Int))).toNat (0 : Int)) < (b % (l.length : Int)))) = false → True) ∧ ((decide ((ret15v.1.getD ((a % (l.length : Int))).toNat (0 : Int)) < (b % (l.length : Int)))) = false → True) ∧ ((decide ((ret15v.1.getD ((a % (l.length : Int))).toNat (0 : Int)) < (b % (l.length : Int)))) = false → True) ∧ ((decide ((ret15v.1.getD ((a % (l.length : Int))).toNat (0 : Int)) < (b % (l.length : Int)))) = false → inIdx (a % (l.length : Int)) ret15v.1.length) ∧ ((decide ((ret15v.1.getD ((a % (l.length : Int))).toNat (0 : Int)) < (b % (l.length : Int)))) = false → True) ∧ ((decide ((ret15v.1.getD ((a % (l.length : Int))).toNat (0 : Int)) < (b % (l.length : Int)))) = false → True) ∧ True ∧ True ∧ True)) (done' := [17, 16, 15, 14, 13, 12, 11, 10, 9, 8, 7, 6, 5, 4, 3, 2, 1, 0]) (st' := (⟨138, [(6, [], .v (.c (.p .bool ((decide ((ret15v.1.getD ((a % (l.length : Int))).toNat (0 : Int)) < (b % (l.length : Int)))) || (decide ((ret15v.1.getD ((b % (l.length : Int))).toNat (0 : Int)) < (ret15v.1.getD ((a % (l.length : Int))).toNat (0 : Int))))))))], []⟩ : St)) (by kernel_rfl) ⟨trivial, trivial, o1, trivial, trivial, trivial, trivial, (fun _ => trivial), (fun _ => trivial), o2, (fun _ => trivial), (fun _ => trivial), (fun _ => trivial), o3, (fun _ => trivial), (fun _ => trivial), trivial, trivial, trivial⟩ ?_
            refine awd_done (by kernel_rfl) ?_
            refine thenQ_n ?_
            refine aw_ret ?_
            exact retQ_r (σ := Bool) (R := (fun y => [toV1 .bool y])) (ob := (True ∧ True)) ((decide ((ret15v.1.getD ((a % (l.length : Int))).toNat (0 : Int)) < (b % (l.length : Int)))) || (decide ((ret15v.1.getD ((b % (l.length : Int))).toNat (0 : Int)) < (ret15v.1.getD ((a % (l.length : Int))).toNat (0 : Int))))) (by kernel_rfl) ⟨trivial, trivial⟩ h

end Dec
