/-
  Printed by dec2.py: of each function its plain demand, and that the demand gives the contract.
-/
import Derived.Test.YtfigkkmiallghaaGenMb
set_option linter.unusedVariables false
set_option linter.unusedSimpArgs false
set_option maxRecDepth 100000
namespace Dec
open Go Go.RowKit Go.Proofs

-- coppicer/net.Check
def VC44_k1 (n : (Int × (Int × ((List (Int × (Int × Int))) × (Int × Int))))) (K : Int → Prop) : Prop :=
  ((0 ≤ (bOr .u32 n.2.2.2.1 n.2.2.2.2) ∧ 0 ≤ n.1) ∧ (((!decide ((bShr .u32 (bOr .u32 n.2.2.2.1 n.2.2.2.2) n.1) = (0 : Int))) = true → K (4 : Int)) ∧ ((!decide ((bShr .u32 (bOr .u32 n.2.2.2.1 n.2.2.2.2) n.1) = (0 : Int))) = false → K (0 : Int))))

def VC44_l1 (n : (Int × (Int × ((List (Int × (Int × Int))) × (Int × Int))))) (K : Int → Prop) (v32 : Int) (X1 : Int → Prop) : Prop :=
  (((decide (v32 < (n.2.2.1.length : Int))) = true → (inIdx v32 n.2.2.1.length ∧ ((((((((decide ((n.2.2.1.getD (v32).toNat ((0 : Int), ((0 : Int), (0 : Int)))).1 < (0 : Int))) || (decide (n.1 ≤ (n.2.2.1.getD (v32).toNat ((0 : Int), ((0 : Int), (0 : Int)))).1))) || (decide ((n.2.2.1.getD (v32).toNat ((0 : Int), ((0 : Int), (0 : Int)))).2.2 < (0 : Int)))) || (decide (n.1 ≤ (n.2.2.1.getD (v32).toNat ((0 : Int), ((0 : Int), (0 : Int)))).2.2))) || (decide ((n.2.2.1.getD (v32).toNat ((0 : Int), ((0 : Int), (0 : Int)))).2.1 < (-1 : Int)))) || (decide (n.2.1 ≤ (n.2.2.1.getD (v32).toNat ((0 : Int), ((0 : Int), (0 : Int)))).2.1))) = true → K (2 : Int)) ∧ (((((((decide ((n.2.2.1.getD (v32).toNat ((0 : Int), ((0 : Int), (0 : Int)))).1 < (0 : Int))) || (decide (n.1 ≤ (n.2.2.1.getD (v32).toNat ((0 : Int), ((0 : Int), (0 : Int)))).1))) || (decide ((n.2.2.1.getD (v32).toNat ((0 : Int), ((0 : Int), (0 : Int)))).2.2 < (0 : Int)))) || (decide (n.1 ≤ (n.2.2.1.getD (v32).toNat ((0 : Int), ((0 : Int), (0 : Int)))).2.2))) || (decide ((n.2.2.1.getD (v32).toNat ((0 : Int), ((0 : Int), (0 : Int)))).2.1 < (-1 : Int)))) || (decide (n.2.1 ≤ (n.2.2.1.getD (v32).toNat ((0 : Int), ((0 : Int), (0 : Int)))).2.1))) = false → (InR (v32 + (1 : Int)) ∧ X1 (v32 + (1 : Int))))))) ∧ ((decide (v32 < (n.2.2.1.length : Int))) = false → VC44_k1 n K))

def VC44 (n : (Int × (Int × ((List (Int × (Int × Int))) × (Int × Int))))) (K : Int → Prop) : Prop :=
  (((((((decide (n.1 < (1 : Int))) || (decide ((7 : Int) < n.1))) || (decide (n.2.1 < (1 : Int)))) || (decide ((3 : Int) < n.2.1))) || (decide ((60 : Int) < (n.2.2.1.length : Int)))) = true → K (1 : Int)) ∧ ((((((decide (n.1 < (1 : Int))) || (decide ((7 : Int) < n.1))) || (decide (n.2.1 < (1 : Int)))) || (decide ((3 : Int) < n.2.1))) || (decide ((60 : Int) < (n.2.2.1.length : Int)))) = false → Loop (σ := Int) (fun s X => VC44_l1 n K s X) (0 : Int)))

set_option maxHeartbeats 4000000 in
theorem link44 (n : (Int × (Int × ((List (Int × (Int × Int))) × (Int × Int))))) (K : Int → Prop) (h : VC44 n K) : ACalls Try.prog 44 [toV1 (.pr (.int .i64) (.pr (.int .i64) (.pr (.sl (.pr (.int .i64) (.pr (.int .i64) (.int .i64)))) (.pr (.int .u32) (.int .u32))))) n] (fun res => ∃ y, res = (fun y => [toV1 (.int .i64) y]) y ∧ K y) := by
  refine acalls_of_aw [(.int .i64)] [.t 2] Try.func44 rfl rfl rfl ?_
  unfold VC44 at h
  refine aw_seq ?_
  refine aw_region ?_
  refine awl_runp 2 [1] [1] (ob := (True ∧ True ∧ True)) (st' := (⟨80, [(1, [], .v (.c (.ptr 1 0)))], [(1, [], .box [.p (.int .i64) n.1, .p (.int .i64) n.2.1, .p (.sl (.pr (.int .i64) (.pr (.int .i64) (.int .i64)))) n.2.2.1, .p (.int .u32) n.2.2.2.1, .p (.int .u32) n.2.2.2.2])]⟩ : St)) (by kernel_rfl) ⟨trivial, trivial, trivial⟩ ?_
  refine awl_nil ?_
  refine thenQ_n ?_
  refine aw_seq ?_
  refine aw_seq ?_
  refine aw_region ?_
  refine awl_runp 24 [1, 28] [1] (ob := (True ∧ True ∧ True ∧ True ∧ ((decide (n.1 < (1 : Int))) = false → True) ∧ ((decide (n.1 < (1 : Int))) = false → True) ∧ ((decide (n.1 < (1 : Int))) = false → True) ∧ True ∧ True ∧ (((decide (n.1 < (1 : Int))) || (decide ((7 : Int) < n.1))) = false → True) ∧ (((decide (n.1 < (1 : Int))) || (decide ((7 : Int) < n.1))) = false → True) ∧ (((decide (n.1 < (1 : Int))) || (decide ((7 : Int) < n.1))) = false → True) ∧ True ∧ True ∧ ((((decide (n.1 < (1 : Int))) || (decide ((7 : Int) < n.1))) || (decide (n.2.1 < (1 : Int)))) = false → True) ∧ ((((decide (n.1 < (1 : Int))) || (decide ((7 : Int) < n.1))) || (decide (n.2.1 < (1 : Int)))) = false → True) ∧ ((((decide (n.1 < (1 : Int))) || (decide ((7 : Int) < n.1))) || (decide (n.2.1 < (1 : Int)))) = false → True) ∧ True ∧ True ∧ (((((decide (n.1 < (1 : Int))) || (decide ((7 : Int) < n.1))) || (decide (n.2.1 < (1 : Int)))) || (decide ((3 : Int) < n.2.1))) = false → True) ∧ (((((decide (n.1 < (1 : Int))) || (decide ((7 : Int) < n.1))) || (decide (n.2.1 < (1 : Int)))) || (decide ((3 : Int) < n.2.1))) = false → True) ∧ (((((decide (n.1 < (1 : Int))) || (decide ((7 : Int) < n.1))) || (decide (n.2.1 < (1 : Int)))) || (decide ((3 : Int) < n.2.1))) = false → True) ∧ (((((decide (n.1 < (1 : Int))) || (decide ((7 : Int) < n.1))) || (decide (n.2.1 < (1 : Int)))) || (decide ((3 : Int) < n.2.1))) = false → True) ∧ True ∧ True)) (st' := (⟨80, [(1, [], .v (.c (.ptr 1 0))), (28, [], .v (.c (.p .bool (((((decide (n.1 < (1 : Int))) || (decide ((7 : Int) < n.1))) || (decide (n.2.1 < (1 : Int)))) || (decide ((3 : Int) < n.2.1))) || (decide ((60 : Int) < (n.2.2.1.length : Int)))))))], [(1, [], .box [.p (.int .i64) n.1, .p (.int .i64) n.2.1, .p (.sl (.pr (.int .i64) (.pr (.int .i64) (.int .i64)))) n.2.2.1, .p (.int .u32) n.2.2.2.1, .p (.int .u32) n.2.2.2.2])]⟩ : St)) (by kernel_rfl) ⟨trivial, trivial, trivial, trivial, (fun _ => trivial), (fun _ => trivial), (fun _ => trivial), trivial, trivial, (fun _ => trivial), (fun _ => trivial), (fun _ => trivial), trivial, trivial, (fun _ => trivial), (fun _ => trivial), (fun _ => trivial), trivial, trivial, (fun _ => trivial), (fun _ => trivial), (fun _ => trivial), (fun _ => trivial), trivial, trivial⟩ ?_
  refine awl_nil ?_
  refine thenQ_n ?_
  refine aw_cond (b := (((((decide (n.1 < (1 : Int))) || (decide ((7 : Int) < n.1))) || (decide (n.2.1 < (1 : Int)))) || (decide ((3 : Int) < n.2.1))) || (decide ((60 : Int) < (n.2.2.1.length : Int))))) (by kernel_rfl) (fun hb => ?_) (fun hb => ?_)
  · have h := h.1 hb
    refine aw_seq ?_
    refine aw_region ?_
    refine awl_runp 1 [2] [] (ob := (True ∧ True)) (st' := (⟨80, [(2, [], .v (.c (.p (.int .i64) (1 : Int))))], []⟩ : St)) (by kernel_rfl) ⟨trivial, trivial⟩ ?_
    refine awl_nil ?_
    refine thenQ_n ?_
    refine aw_ret ?_
    refine thenQ_r ?_
    exact retQ_r (σ := Int) (R := (fun y => [toV1 (.int .i64) y])) (ob := (True ∧ True)) (1 : Int) (by kernel_rfl) ⟨trivial, trivial⟩ h
  · have h := h.2 hb
    refine aw_skip ?_
    refine thenQ_n ?_
    refine aw_seq ?_
    refine aw_seq ?_
    refine aw_region ?_
    refine awl_runp 4 [1, 30, 31, 32] [1] (ob := (True ∧ True ∧ True ∧ True ∧ True)) (st' := (⟨80, [(1, [], .v (.c (.ptr 1 0))), (30, [], .v (.c (.p (.sl (.pr (.int .i64) (.pr (.int .i64) (.int .i64)))) n.2.2.1))), (31, [], .v (.c (.p (.int .i64) (n.2.2.1.length : Int)))), (32, [], .v (.c (.p (.int .i64) (0 : Int))))], [(1, [], .box [.p (.int .i64) n.1, .p (.int .i64) n.2.1, .p (.sl (.pr (.int .i64) (.pr (.int .i64) (.int .i64)))) n.2.2.1, .p (.int .u32) n.2.2.2.1, .p (.int .u32) n.2.2.2.2])]⟩ : St)) (by kernel_rfl) ⟨trivial, trivial, trivial, trivial, trivial⟩ ?_
    refine awl_nil ?_
    refine thenQ_n ?_
    refine withJoin (σ := Unit) (fun s => (⟨80, [(1, [], .v (.c (.ptr 1 0)))], [(1, [], .box [.p (.int .i64) n.1, .p (.int .i64) n.2.1, .p (.sl (.pr (.int .i64) (.pr (.int .i64) (.int .i64)))) n.2.2.1, .p (.int .u32) n.2.2.2.1, .p (.int .u32) n.2.2.2.2])]⟩ : St)) (fun s => VC44_k1 n K) (fun s h => ?_) (fun rest1 => ?_)
    · have h : VC44_k1 n K := h
      unfold VC44_k1 at h
      refine thenQ_n ?_
      refine aw_seq ?_
      refine aw_seq ?_
      refine aw_region ?_
      obtain ⟨o1, h⟩ := h
      refine awl_runp 9 [79] [] (ob := (True ∧ True ∧ True ∧ True ∧ True ∧ True ∧ True ∧ (0 ≤ (bOr .u32 n.2.2.2.1 n.2.2.2.2) ∧ 0 ≤ n.1) ∧ True ∧ True)) (st' := (⟨80, [(79, [], .v (.c (.p .bool (!decide ((bShr .u32 (bOr .u32 n.2.2.2.1 n.2.2.2.2) n.1) = (0 : Int))))))], []⟩ : St)) (by kernel_rfl) ⟨trivial, trivial, trivial, trivial, trivial, trivial, trivial, o1, trivial, trivial⟩ ?_
      refine awl_nil ?_
      refine thenQ_n ?_
      refine aw_cond (b := (!decide ((bShr .u32 (bOr .u32 n.2.2.2.1 n.2.2.2.2) n.1) = (0 : Int)))) (by kernel_rfl) (fun hb => ?_) (fun hb => ?_)
      · have h := h.1 hb
        refine aw_seq ?_
        refine aw_region ?_
        refine awl_runp 1 [2] [] (ob := (True ∧ True)) (st' := (⟨80, [(2, [], .v (.c (.p (.int .i64) (4 : Int))))], []⟩ : St)) (by kernel_rfl) ⟨trivial, trivial⟩ ?_
        refine awl_nil ?_
        refine thenQ_n ?_
        refine aw_ret ?_
        refine thenQ_r ?_
        exact retQ_r (σ := Int) (R := (fun y => [toV1 (.int .i64) y])) (ob := (True ∧ True)) (4 : Int) (by kernel_rfl) ⟨trivial, trivial⟩ h
      · have h := h.2 hb
        refine aw_skip ?_
        refine thenQ_n ?_
        refine aw_seq ?_
        refine aw_region ?_
        refine awl_runp 1 [2] [] (ob := (True ∧ True)) (st' := (⟨80, [(2, [], .v (.c (.p (.int .i64) (0 : Int))))], []⟩ : St)) (by kernel_rfl) ⟨trivial, trivial⟩ ?_
        refine awl_nil ?_
        refine thenQ_n ?_
        refine aw_ret ?_
        exact retQ_r (σ := Int) (R := (fun y => [toV1 (.int .i64) y])) (ob := (True ∧ True)) (0 : Int) (by kernel_rfl) ⟨trivial, trivial⟩ h
    · refine aw_block ?_
      refine aw_loop (σ := Int) (fun s => (⟨80, [(1, [], .v (.c (.ptr 1 0))), (30, [], .v (.c (.p (.sl (.pr (.int .i64) (.pr (.int .i64) (.int .i64)))) n.2.2.1))), (31, [], .v (.c (.p (.int .i64) (n.2.2.1.length : Int)))), (32, [], .v (.c (.p (.int .i64) s)))], [(1, [], .box [.p (.int .i64) n.1, .p (.int .i64) n.2.1, .p (.sl (.pr (.int .i64) (.pr (.int .i64) (.int .i64)))) n.2.2.1, .p (.int .u32) n.2.2.2.1, .p (.int .u32) n.2.2.2.2])]⟩ : St)) (fun s X => VC44_l1 n K s X) (s0 := (0 : Int)) (fun v32 X1 h => ?_) h
      have h : VC44_l1 n K v32 X1 := h
      unfold VC44_l1 at h
      refine aw_seq ?_
      refine aw_region ?_
      refine awl_runp 1 [1, 30, 31, 32, 33] [1] (ob := (True ∧ True)) (st' := (⟨80, [(1, [], .v (.c (.ptr 1 0))), (30, [], .v (.c (.p (.sl (.pr (.int .i64) (.pr (.int .i64) (.int .i64)))) n.2.2.1))), (31, [], .v (.c (.p (.int .i64) (n.2.2.1.length : Int)))), (32, [], .v (.c (.p (.int .i64) v32))), (33, [], .v (.c (.p .bool (decide (v32 < (n.2.2.1.length : Int))))))], [(1, [], .box [.p (.int .i64) n.1, .p (.int .i64) n.2.1, .p (.sl (.pr (.int .i64) (.pr (.int .i64) (.int .i64)))) n.2.2.1, .p (.int .u32) n.2.2.2.1, .p (.int .u32) n.2.2.2.2])]⟩ : St)) (by kernel_rfl) ⟨trivial, trivial⟩ ?_
      refine awl_nil ?_
      refine thenQ_n ?_
      refine aw_seq ?_
      refine aw_cond (b := (decide (v32 < (n.2.2.1.length : Int)))) (by kernel_rfl) (fun hb => ?_) (fun hb => ?_)
      · have h := h.1 hb
        refine aw_skip ?_
        refine thenQ_n ?_
        refine aw_seq ?_
        refine aw_block ?_
        refine aw_seq ?_
        refine aw_region ?_
        obtain ⟨o1, h⟩ := h
        refine awl_runp 4 [1, 4, 30, 31, 32] [1, 4] (ob := (inIdx v32 n.2.2.1.length ∧ True ∧ True ∧ True ∧ True)) (st' := (⟨80, [(1, [], .v (.c (.ptr 1 0))), (4, [], .v (.c (.ptr 4 0))), (30, [], .v (.c (.p (.sl (.pr (.int .i64) (.pr (.int .i64) (.int .i64)))) n.2.2.1))), (31, [], .v (.c (.p (.int .i64) (n.2.2.1.length : Int)))), (32, [], .v (.c (.p (.int .i64) v32)))], [(1, [], .box [.p (.int .i64) n.1, .p (.int .i64) n.2.1, .p (.sl (.pr (.int .i64) (.pr (.int .i64) (.int .i64)))) n.2.2.1, .p (.int .u32) n.2.2.2.1, .p (.int .u32) n.2.2.2.2]), (4, [], .box [.p (.int .i64) ((n.2.2.1.getD (v32).toNat ((0 : Int), ((0 : Int), (0 : Int)))).1), .p (.int .i64) ((n.2.2.1.getD (v32).toNat ((0 : Int), ((0 : Int), (0 : Int)))).2.1), .p (.int .i64) ((n.2.2.1.getD (v32).toNat ((0 : Int), ((0 : Int), (0 : Int)))).2.2)])]⟩ : St)) (by kernel_rfl) ⟨o1, trivial, trivial, trivial, trivial⟩ ?_
        refine awl_nil ?_
        refine thenQ_n ?_
        refine aw_seq ?_
        refine aw_region ?_
        refine awl_runp 34 [1, 30, 31, 32, 69] [1] (ob := (True ∧ True ∧ True ∧ True ∧ ((decide ((n.2.2.1.getD (v32).toNat ((0 : Int), ((0 : Int), (0 : Int)))).1 < (0 : Int))) = false → True) ∧ ((decide ((n.2.2.1.getD (v32).toNat ((0 : Int), ((0 : Int), (0 : Int)))).1 < (0 : Int))) = false → True) ∧ ((decide ((n.2.2.1.getD (v32).toNat ((0 : Int), ((0 : Int), (0 : Int)))).1 < (0 : Int))) = false → True) ∧ ((decide ((n.2.2.1.getD (v32).toNat ((0 : Int), ((0 : Int), (0 : Int)))).1 < (0 : Int))) = false → True) ∧ ((decide ((n.2.2.1.getD (v32).toNat ((0 : Int), ((0 : Int), (0 : Int)))).1 < (0 : Int))) = false → True) ∧ True ∧ True ∧ (((decide ((n.2.2.1.getD (v32).toNat ((0 : Int), ((0 : Int), (0 : Int)))).1 < (0 : Int))) || (decide (n.1 ≤ (n.2.2.1.getD (v32).toNat ((0 : Int), ((0 : Int), (0 : Int)))).1))) = false → True) ∧ (((decide ((n.2.2.1.getD (v32).toNat ((0 : Int), ((0 : Int), (0 : Int)))).1 < (0 : Int))) || (decide (n.1 ≤ (n.2.2.1.getD (v32).toNat ((0 : Int), ((0 : Int), (0 : Int)))).1))) = false → True) ∧ (((decide ((n.2.2.1.getD (v32).toNat ((0 : Int), ((0 : Int), (0 : Int)))).1 < (0 : Int))) || (decide (n.1 ≤ (n.2.2.1.getD (v32).toNat ((0 : Int), ((0 : Int), (0 : Int)))).1))) = false → True) ∧ True ∧ True ∧ ((((decide ((n.2.2.1.getD (v32).toNat ((0 : Int), ((0 : Int), (0 : Int)))).1 < (0 : Int))) || (decide (n.1 ≤ (n.2.2.1.getD (v32).toNat ((0 : Int), ((0 : Int), (0 : Int)))).1))) || (decide ((n.2.2.1.getD (v32).toNat ((0 : Int), ((0 : Int), (0 : Int)))).2.2 < (0 : Int)))) = false → True) ∧ ((((decide ((n.2.2.1.getD (v32).toNat ((0 : Int), ((0 : Int), (0 : Int)))).1 < (0 : Int))) || (decide (n.1 ≤ (n.2.2.1.getD (v32).toNat ((0 : Int), ((0 : Int), (0 : Int)))).1))) || (decide ((n.2.2.1.getD (v32).toNat ((0 : Int), ((0 : Int), (0 : Int)))).2.2 < (0 : Int)))) = false → True) ∧ ((((decide ((n.2.2.1.getD (v32).toNat ((0 : Int), ((0 : Int), (0 : Int)))).1 < (0 : Int))) || (decide (n.1 ≤ (n.2.2.1.getD (v32).toNat ((0 : Int), ((0 : Int), (0 : Int)))).1))) || (decide ((n.2.2.1.getD (v32).toNat ((0 : Int), ((0 : Int), (0 : Int)))).2.2 < (0 : Int)))) = false → True) ∧ ((((decide ((n.2.2.1.getD (v32).toNat ((0 : Int), ((0 : Int), (0 : Int)))).1 < (0 : Int))) || (decide (n.1 ≤ (n.2.2.1.getD (v32).toNat ((0 : Int), ((0 : Int), (0 : Int)))).1))) || (decide ((n.2.2.1.getD (v32).toNat ((0 : Int), ((0 : Int), (0 : Int)))).2.2 < (0 : Int)))) = false → True) ∧ ((((decide ((n.2.2.1.getD (v32).toNat ((0 : Int), ((0 : Int), (0 : Int)))).1 < (0 : Int))) || (decide (n.1 ≤ (n.2.2.1.getD (v32).toNat ((0 : Int), ((0 : Int), (0 : Int)))).1))) || (decide ((n.2.2.1.getD (v32).toNat ((0 : Int), ((0 : Int), (0 : Int)))).2.2 < (0 : Int)))) = false → True) ∧ True ∧ True ∧ (((((decide ((n.2.2.1.getD (v32).toNat ((0 : Int), ((0 : Int), (0 : Int)))).1 < (0 : Int))) || (decide (n.1 ≤ (n.2.2.1.getD (v32).toNat ((0 : Int), ((0 : Int), (0 : Int)))).1))) || (decide ((n.2.2.1.getD (v32).toNat ((0 : Int), ((0 : Int), (0 : Int)))).2.2 < (0 : Int)))) || (decide (n.1 ≤ (n.2.2.1.getD (v32).toNat ((0 : Int), ((0 : Int), (0 : Int)))).2.2))) = false → True) ∧ (((((decide ((n.2.2.1.getD (v32).toNat ((0 : Int), ((0 : Int), (0 : Int)))).1 < (0 : Int))) || (decide (n.1 ≤ (n.2.2.1.getD (v32).toNat ((0 : Int), ((0 : Int), (0 : Int)))).1))) || (decide ((n.2.2.1.getD (v32).toNat ((0 : Int), ((0 : Int), (0 : Int)))).2.2 < (0 : Int)))) || (decide (n.1 ≤ (n.2.2.1.getD (v32).toNat ((0 : Int), ((0 : Int), (0 : Int)))).2.2))) = false → True) ∧ (((((decide ((n.2.2.1.getD (v32).toNat ((0 : Int), ((0 : Int), (0 : Int)))).1 < (0 : Int))) || (decide (n.1 ≤ (n.2.2.1.getD (v32).toNat ((0 : Int), ((0 : Int), (0 : Int)))).1))) || (decide ((n.2.2.1.getD (v32).toNat ((0 : Int), ((0 : Int), (0 : Int)))).2.2 < (0 : Int)))) || (decide (n.1 ≤ (n.2.2.1.getD (v32).toNat ((0 : Int), ((0 : Int), (0 : Int)))).2.2))) = false → True) ∧ True ∧ True ∧ ((((((decide ((n.2.2.1.getD (v32).toNat ((0 : Int), ((0 : Int), (0 : Int)))).1 < (0 : Int))) || (decide (n.1 ≤ (n.2.2.1.getD (v32).toNat ((0 : Int), ((0 : Int), (0 : Int)))).1))) || (decide ((n.2.2.1.getD (v32).toNat ((0 : Int), ((0 : Int), (0 : Int)))).2.2 < (0 : Int)))) || (decide (n.1 ≤ (n.2.2.1.getD (v32).toNat ((0 : Int), ((0 : Int), (0 : Int)))).2.2))) || (decide ((n.2.2.1.getD (v32).toNat ((0 : Int), ((0 : Int), (0 : Int)))).2.1 < (-1 : Int)))) = false → True) ∧ ((((((decide ((n.2.2.1.getD (v32).toNat ((0 : Int), ((0 : Int), (0 : Int)))).1 < (0 : Int))) || (decide (n.1 ≤ (n.2.2.1.getD (v32).toNat ((0 : Int), ((0 : Int), (0 : Int)))).1))) || (decide ((n.2.2.1.getD (v32).toNat ((0 : Int), ((0 : Int), (0 : Int)))).2.2 < (0 : Int)))) || (decide (n.1 ≤ (n.2.2.1.getD (v32).toNat ((0 : Int), ((0 : Int), (0 : Int)))).2.2))) || (decide ((n.2.2.1.getD (v32).toNat ((0 : Int), ((0 : Int), (0 : Int)))).2.1 < (-1 : Int)))) = false → True) ∧ ((((((decide ((n.2.2.1.getD (v32).toNat ((0 : Int), ((0 : Int), (0 : Int)))).1 < (0 : Int))) || (decide (n.1 ≤ (n.2.2.1.getD (v32).toNat ((0 : Int), ((0 : Int), (0 : Int)))).1))) || (decide ((n.2.2.1.getD (v32).toNat ((0 : Int), ((0 : Int), (0 : Int)))).2.2 < (0 : Int)))) || (decide (n.1 ≤ (n.2.2.1.getD (v32).toNat ((0 : Int), ((0 : Int), (0 : Int)))).2.2))) || (decide ((n.2.2.1.getD (v32).toNat ((0 : Int), ((0 : Int), (0 : Int)))).2.1 < (-1 : Int)))) = false → True) ∧ ((((((decide ((n.2.2.1.getD (v32).toNat ((0 : Int), ((0 : Int), (0 : Int)))).1 < (0 : Int))) || (decide (n.1 ≤ (n.2.2.1.getD (v32).toNat ((0 : Int), ((0 : Int), (0 : Int)))).1))) || (decide ((n.2.2.1.getD (v32).toNat ((0 : Int), ((0 : Int), (0 : Int)))).2.2 < (0 : Int)))) || (decide (n.1 ≤ (n.2.2.1.getD (v32).toNat ((0 : Int), ((0 : Int), (0 : Int)))).2.2))) || (decide ((n.2.2.1.getD (v32).toNat ((0 : Int), ((0 : Int), (0 : Int)))).2.1 < (-1 : Int)))) = false → True) ∧ ((((((decide ((n.2.2.1.getD (v32).toNat ((0 : Int), ((0 : Int), (0 : Int)))).1 < (0 : Int))) || (decide (n.1 ≤ (n.2.2.1.getD (v32).toNat ((0 : Int), ((0 : Int), (0 : Int)))).1))) || (decide ((n.2.2.1.getD (v32).toNat ((0 : Int), ((0 : Int), (0 : Int)))).2.2 < (0 : Int)))) || (decide (n.1 ≤ (n.2.2.1.getD (v32).toNat ((0 : Int), ((0 : Int), (0 : Int)))).2.2))) || (decide ((n.2.2.1.getD (v32).toNat ((0 : Int), ((0 : Int), (0 : Int)))).2.1 < (-1 : Int)))) = false → True) ∧ True ∧ True)) (st' := (⟨80, [(1, [], .v (.c (.ptr 1 0))), (30, [], .v (.c (.p (.sl (.pr (.int .i64) (.pr (.int .i64) (.int .i64)))) n.2.2.1))), (31, [], .v (.c (.p (.int .i64) (n.2.2.1.length : Int)))), (32, [], .v (.c (.p (.int .i64) v32))), (69, [], .v (.c (.p .bool ((((((decide ((n.2.2.1.getD (v32).toNat ((0 : Int), ((0 : Int), (0 : Int)))).1 < (0 : Int))) || (decide (n.1 ≤ (n.2.2.1.getD (v32).toNat ((0 : Int), ((0 : Int), (0 : Int)))).1))) || (decide ((n.2.2.1.getD (v32).toNat ((0 : Int), ((0 : Int), (0 : Int)))).2.2 < (0 : Int)))) || (decide (n.1 ≤ (n.2.2.1.getD (v32).toNat ((0 : Int), ((0 : Int), (0 : Int)))).2.2))) || (decide ((n.2.2.1.getD (v32).toNat ((0 : Int), ((0 : Int), (0 : Int)))).2.1 < (-1 : Int)))) || (decide (n.2.1 ≤ (n.2.2.1.getD (v32).toNat ((0 : Int), ((0 : Int), (0 : Int)))).2.1))))))], [(1, [], .box [.p (.int .i64) n.1, .p (.int .i64) n.2.1, .p (.sl (.pr (.int .i64) (.pr (.int .i64) (.int .i64)))) n.2.2.1, .p (.int .u32) n.2.2.2.1, .p (.int .u32) n.2.2.2.2])]⟩ : St)) (by kernel_rfl) ⟨trivial, trivial, trivial, trivial, (fun _ => trivial), (fun _ => trivial), (fun _ => trivial), (fun _ => trivial), (fun _ => trivial), trivial, trivial, (fun _ => trivial), (fun _ => trivial), (fun _ => trivial), trivial, trivial, (fun _ => trivial), (fun _ => trivial), (fun _ => trivial), (fun _ => trivial), (fun _ => trivial), trivial, trivial, (fun _ => trivial), (fun _ => trivial), (fun _ => trivial), trivial, trivial, (fun _ => trivial), (fun _ => trivial), (fun _ => trivial), (fun _ => trivial), (fun _ => trivial), trivial, trivial⟩ ?_
        refine awl_nil ?_
        refine thenQ_n ?_
        refine aw_cond (b := ((((((decide ((n.2.2.1.getD (v32).toNat ((0 : Int), ((0 : Int), (0 : Int)))).1 < (0 : Int))) || (decide (n.1 ≤ (n.2.2.1.getD (v32).toNat ((0 : Int), ((0 : Int), (0 : Int)))).1))) || (decide ((n.2.2.1.getD (v32).toNat ((0 : Int), ((0 : Int), (0 : Int)))).2.2 < (0 : Int)))) || (decide (n.1 ≤ (n.2.2.1.getD (v32).toNat ((0 : Int), ((0 : Int), (0 : Int)))).2.2))) || (decide ((n.2.2.1.getD (v32).toNat ((0 : Int), ((0 : Int), (0 : Int)))).2.1 < (-1 : Int)))) || (decide (n.2.1 ≤ (n.2.2.1.getD (v32).toNat ((0 : Int), ((0 : Int), (0 : Int)))).2.1)))) (by kernel_rfl) (fun hb => ?_) (fun hb => ?_)
        · have h := h.1 hb
          refine aw_seq ?_
          refine aw_region ?_
          refine awl_runp 1 [2] [] (ob := (True ∧ True)) (st' := (⟨80, [(2, [], .v (.c (.p (.int .i64) (2 : Int))))], []⟩ : St)) (by kernel_rfl) ⟨trivial, trivial⟩ ?_
          refine awl_nil ?_
          refine thenQ_n ?_
          refine aw_ret ?_
          refine blockQ_r ?_
          refine thenQ_r ?_
          refine thenQ_r ?_
          refine blockQ_r ?_
          refine thenQ_r ?_
          exact retQ_r (σ := Int) (R := (fun y => [toV1 (.int .i64) y])) (ob := (True ∧ True)) (2 : Int) (by kernel_rfl) ⟨trivial, trivial⟩ h
        · have h := h.2 hb
          refine aw_skip ?_
          refine blockQ_n ?_
          refine thenQ_n ?_
          refine aw_region ?_
          obtain ⟨o1, h⟩ := h
          refine awl_runp 2 [1, 30, 31, 32] [1] (ob := (InR (v32 + (1 : Int)) ∧ True ∧ True)) (st' := (⟨80, [(1, [], .v (.c (.ptr 1 0))), (30, [], .v (.c (.p (.sl (.pr (.int .i64) (.pr (.int .i64) (.int .i64)))) n.2.2.1))), (31, [], .v (.c (.p (.int .i64) (n.2.2.1.length : Int)))), (32, [], .v (.c (.p (.int .i64) (v32 + (1 : Int)))))], [(1, [], .box [.p (.int .i64) n.1, .p (.int .i64) n.2.1, .p (.sl (.pr (.int .i64) (.pr (.int .i64) (.int .i64)))) n.2.2.1, .p (.int .u32) n.2.2.2.1, .p (.int .u32) n.2.2.2.2])]⟩ : St)) (by kernel_rfl) ⟨o1, trivial, trivial⟩ ?_
          refine awl_nil ?_
          exact thenQ_n ⟨(v32 + (1 : Int)), rfl, h⟩
      · have h := h.2 hb
        refine aw_conv [.prune [1] [1]] (st' := (⟨80, [(1, [], .v (.c (.ptr 1 0)))], [(1, [], .box [.p (.int .i64) n.1, .p (.int .i64) n.2.1, .p (.sl (.pr (.int .i64) (.pr (.int .i64) (.int .i64)))) n.2.2.1, .p (.int .u32) n.2.2.2.1, .p (.int .u32) n.2.2.2.2])]⟩ : St)) (by kernel_rfl) ?_
        refine aw_exit ?_
        refine thenQ_x ?_
        refine thenQ_x ?_
        refine blockQ_hit ?_
        exact rest1 () h

-- coppicer/net.still
def VC45_k1 (K : Int → Prop) (setv2 : Int) (X1 : Int → Prop) (setv3 : Int) : Prop :=
  (((decide (setv3 = setv2)) = true → K setv3) ∧ ((decide (setv3 = setv2)) = false → X1 setv3))

def VC45_k2 (v12 : Int) (X2 : Int × Int → Prop) (setv4 : Int) : Prop :=
  (InR (v12 + (1 : Int)) ∧ X2 (setv4, (v12 + (1 : Int))))

def VC45_l2 (n : (Int × (Int × ((List (Int × (Int × Int))) × (Int × Int))))) (K : Int → Prop) (setv2 : Int) (X1 : Int → Prop) (setv3 : Int) (v12 : Int) (X2 : Int × Int → Prop) : Prop :=
  (((decide (v12 < (n.2.2.1.length : Int))) = true → (inIdx v12 n.2.2.1.length ∧ gcall (α := Bool) (decide ((n.2.2.1.getD (v12).toNat ((0 : Int), ((0 : Int), (0 : Int)))).2.1 < (0 : Int))) (VC42 setv3 ((n.2.2.1.getD (v12).toNat ((0 : Int), ((0 : Int), (0 : Int)))).1)) false (fun (ret23v : Bool) => ((((decide ((n.2.2.1.getD (v12).toNat ((0 : Int), ((0 : Int), (0 : Int)))).2.1 < (0 : Int))) && ret23v) = true → (0 ≤ (n.2.2.1.getD (v12).toNat ((0 : Int), ((0 : Int), (0 : Int)))).2.2 ∧ VC45_k2 v12 X2 (bOr .u32 setv3 (bShl .u32 (1 : Int) ((n.2.2.1.getD (v12).toNat ((0 : Int), ((0 : Int), (0 : Int)))).2.2))))) ∧ (((decide ((n.2.2.1.getD (v12).toNat ((0 : Int), ((0 : Int), (0 : Int)))).2.1 < (0 : Int))) && ret23v) = false → VC45_k2 v12 X2 setv3))))) ∧ ((decide (v12 < (n.2.2.1.length : Int))) = false → VC45_k1 K setv2 X1 setv3))

def VC45_l1 (n : (Int × (Int × ((List (Int × (Int × Int))) × (Int × Int))))) (K : Int → Prop) (setv2 : Int) (X1 : Int → Prop) : Prop :=
  Loop (σ := Int × Int) (fun s X => VC45_l2 n K setv2 X1 s.1 s.2 X) (setv2, (0 : Int))

def VC45 (n : (Int × (Int × ((List (Int × (Int × Int))) × (Int × Int))))) (setv : Int) (K : Int → Prop) : Prop :=
  Loop (σ := Int) (fun s X => VC45_l1 n K s X) setv

set_option maxHeartbeats 4000000 in
theorem link45 (n : (Int × (Int × ((List (Int × (Int × Int))) × (Int × Int))))) (setv : Int) (K : Int → Prop) (h : VC45 n setv K) : ACalls Try.prog 45 [toV1 (.pr (.int .i64) (.pr (.int .i64) (.pr (.sl (.pr (.int .i64) (.pr (.int .i64) (.int .i64)))) (.pr (.int .u32) (.int .u32))))) n, toV1 (.int .u32) setv] (fun res => ∃ y, res = (fun y => [toV1 (.int .u32) y]) y ∧ K y) := by
  refine acalls_of_aw [(.int .u32)] [.t 4] Try.func45 rfl rfl rfl ?_
  unfold VC45 at h
  refine aw_seq ?_
  refine aw_region ?_
  refine awl_runp 2 [1, 2] [2] (ob := (True ∧ True ∧ True)) (st' := (⟨35, [(1, [], .v (.c (.p (.int .u32) setv))), (2, [], .v (.c (.ptr 2 0)))], [(2, [], .box [.p (.int .i64) n.1, .p (.int .i64) n.2.1, .p (.sl (.pr (.int .i64) (.pr (.int .i64) (.int .i64)))) n.2.2.1, .p (.int .u32) n.2.2.2.1, .p (.int .u32) n.2.2.2.2])]⟩ : St)) (by kernel_rfl) ⟨trivial, trivial, trivial⟩ ?_
  refine awl_nil ?_
  refine thenQ_n ?_
  refine aw_block ?_
  refine aw_loop (σ := Int) (fun s => (⟨35, [(1, [], .v (.c (.p (.int .u32) s))), (2, [], .v (.c (.ptr 2 0)))], [(2, [], .box [.p (.int .i64) n.1, .p (.int .i64) n.2.1, .p (.sl (.pr (.int .i64) (.pr (.int .i64) (.int .i64)))) n.2.2.1, .p (.int .u32) n.2.2.2.1, .p (.int .u32) n.2.2.2.2])]⟩ : St)) (fun s X => VC45_l1 n K s X) (s0 := setv) (fun setv2 X1 h => ?_) h
  have h : VC45_l1 n K setv2 X1 := h
  unfold VC45_l1 at h
  refine aw_block ?_
  refine aw_seq ?_
  refine aw_region ?_
  refine awl_runp 2 [1, 2, 5] [2] (ob := (True ∧ True ∧ True)) (st' := (⟨35, [(1, [], .v (.c (.p (.int .u32) setv2))), (2, [], .v (.c (.ptr 2 0))), (5, [], .v (.c (.p (.int .u32) setv2)))], [(2, [], .box [.p (.int .i64) n.1, .p (.int .i64) n.2.1, .p (.sl (.pr (.int .i64) (.pr (.int .i64) (.int .i64)))) n.2.2.1, .p (.int .u32) n.2.2.2.1, .p (.int .u32) n.2.2.2.2])]⟩ : St)) (by kernel_rfl) ⟨trivial, trivial, trivial⟩ ?_
  refine awl_nil ?_
  refine thenQ_n ?_
  refine aw_seq ?_
  refine aw_seq ?_
  refine aw_region ?_
  refine awl_runp 4 [1, 2, 5, 10, 11, 12] [2] (ob := (True ∧ True ∧ True ∧ True ∧ True)) (st' := (⟨35, [(1, [], .v (.c (.p (.int .u32) setv2))), (2, [], .v (.c (.ptr 2 0))), (5, [], .v (.c (.p (.int .u32) setv2))), (10, [], .v (.c (.p (.sl (.pr (.int .i64) (.pr (.int .i64) (.int .i64)))) n.2.2.1))), (11, [], .v (.c (.p (.int .i64) (n.2.2.1.length : Int)))), (12, [], .v (.c (.p (.int .i64) (0 : Int))))], [(2, [], .box [.p (.int .i64) n.1, .p (.int .i64) n.2.1, .p (.sl (.pr (.int .i64) (.pr (.int .i64) (.int .i64)))) n.2.2.1, .p (.int .u32) n.2.2.2.1, .p (.int .u32) n.2.2.2.2])]⟩ : St)) (by kernel_rfl) ⟨trivial, trivial, trivial, trivial, trivial⟩ ?_
  refine awl_nil ?_
  refine thenQ_n ?_
  refine withJoin (σ := Int) (fun s => (⟨35, [(1, [], .v (.c (.p (.int .u32) s))), (2, [], .v (.c (.ptr 2 0))), (5, [], .v (.c (.p (.int .u32) setv2)))], [(2, [], .box [.p (.int .i64) n.1, .p (.int .i64) n.2.1, .p (.sl (.pr (.int .i64) (.pr (.int .i64) (.int .i64)))) n.2.2.1, .p (.int .u32) n.2.2.2.1, .p (.int .u32) n.2.2.2.2])]⟩ : St)) (fun s => VC45_k1 K setv2 X1 s) (fun setv3 h => ?_) (fun rest1 => ?_)
  · have h : VC45_k1 K setv2 X1 setv3 := h
    unfold VC45_k1 at h
    refine thenQ_n ?_
    refine aw_seq ?_
    refine aw_region ?_
    refine awl_runp 3 [1, 2, 33] [2] (ob := (True ∧ True ∧ True ∧ True)) (st' := (⟨35, [(1, [], .v (.c (.p (.int .u32) setv3))), (2, [], .v (.c (.ptr 2 0))), (33, [], .v (.c (.p .bool (decide (setv3 = setv2)))))], [(2, [], .box [.p (.int .i64) n.1, .p (.int .i64) n.2.1, .p (.sl (.pr (.int .i64) (.pr (.int .i64) (.int .i64)))) n.2.2.1, .p (.int .u32) n.2.2.2.1, .p (.int .u32) n.2.2.2.2])]⟩ : St)) (by kernel_rfl) ⟨trivial, trivial, trivial, trivial⟩ ?_
    refine awl_nil ?_
    refine thenQ_n ?_
    refine aw_cond (b := (decide (setv3 = setv2))) (by kernel_rfl) (fun hb => ?_) (fun hb => ?_)
    · have h := h.1 hb
      refine aw_seq ?_
      refine aw_region ?_
      refine awl_runp 2 [4] [] (ob := (True ∧ True ∧ True)) (st' := (⟨35, [(4, [], .v (.c (.p (.int .u32) setv3)))], []⟩ : St)) (by kernel_rfl) ⟨trivial, trivial, trivial⟩ ?_
      refine awl_nil ?_
      refine thenQ_n ?_
      refine aw_ret ?_
      refine blockQ_r ?_
      refine thenQ_r ?_
      refine blockQ_r ?_
      exact retQ_r (σ := Int) (R := (fun y => [toV1 (.int .u32) y])) (ob := (True ∧ True)) setv3 (by kernel_rfl) ⟨trivial, trivial⟩ h
    · have h := h.2 hb
      refine aw_conv [.prune [1, 2] [2]] (st' := (⟨35, [(1, [], .v (.c (.p (.int .u32) setv3))), (2, [], .v (.c (.ptr 2 0)))], [(2, [], .box [.p (.int .i64) n.1, .p (.int .i64) n.2.1, .p (.sl (.pr (.int .i64) (.pr (.int .i64) (.int .i64)))) n.2.2.1, .p (.int .u32) n.2.2.2.1, .p (.int .u32) n.2.2.2.2])]⟩ : St)) (by kernel_rfl) ?_
      refine aw_skip ?_
      refine blockQ_n ?_
      exact thenQ_n ⟨setv3, rfl, h⟩
  · refine aw_block ?_
    refine aw_loop (σ := Int × Int) (fun s => (⟨35, [(1, [], .v (.c (.p (.int .u32) s.1))), (2, [], .v (.c (.ptr 2 0))), (5, [], .v (.c (.p (.int .u32) setv2))), (10, [], .v (.c (.p (.sl (.pr (.int .i64) (.pr (.int .i64) (.int .i64)))) n.2.2.1))), (11, [], .v (.c (.p (.int .i64) (n.2.2.1.length : Int)))), (12, [], .v (.c (.p (.int .i64) s.2)))], [(2, [], .box [.p (.int .i64) n.1, .p (.int .i64) n.2.1, .p (.sl (.pr (.int .i64) (.pr (.int .i64) (.int .i64)))) n.2.2.1, .p (.int .u32) n.2.2.2.1, .p (.int .u32) n.2.2.2.2])]⟩ : St)) (fun s X => VC45_l2 n K setv2 X1 s.1 s.2 X) (s0 := (setv2, (0 : Int))) (fun s X2 h => ?_) h
    obtain ⟨setv3, v12⟩ := s
    have h : VC45_l2 n K setv2 X1 setv3 v12 X2 := h
    unfold VC45_l2 at h
    refine aw_seq ?_
    refine aw_region ?_
    refine awl_runp 1 [1, 2, 5, 10, 11, 12, 13] [2] (ob := (True ∧ True)) (st' := (⟨35, [(1, [], .v (.c (.p (.int .u32) setv3))), (2, [], .v (.c (.ptr 2 0))), (5, [], .v (.c (.p (.int .u32) setv2))), (10, [], .v (.c (.p (.sl (.pr (.int .i64) (.pr (.int .i64) (.int .i64)))) n.2.2.1))), (11, [], .v (.c (.p (.int .i64) (n.2.2.1.length : Int)))), (12, [], .v (.c (.p (.int .i64) v12))), (13, [], .v (.c (.p .bool (decide (v12 < (n.2.2.1.length : Int))))))], [(2, [], .box [.p (.int .i64) n.1, .p (.int .i64) n.2.1, .p (.sl (.pr (.int .i64) (.pr (.int .i64) (.int .i64)))) n.2.2.1, .p (.int .u32) n.2.2.2.1, .p (.int .u32) n.2.2.2.2])]⟩ : St)) (by kernel_rfl) ⟨trivial, trivial⟩ ?_
    refine awl_nil ?_
    refine thenQ_n ?_
    refine aw_seq ?_
    refine aw_cond (b := (decide (v12 < (n.2.2.1.length : Int)))) (by kernel_rfl) (fun hb => ?_) (fun hb => ?_)
    · have h := h.1 hb
      refine aw_skip ?_
      refine thenQ_n ?_
      refine aw_seq ?_
      refine aw_block ?_
      refine aw_seq ?_
      refine aw_region ?_
      obtain ⟨o1, h⟩ := h
      refine awl_runp 4 [1, 2, 5, 7, 10, 11, 12] [2, 7] (ob := (inIdx v12 n.2.2.1.length ∧ True ∧ True ∧ True ∧ True)) (st' := (⟨35, [(1, [], .v (.c (.p (.int .u32) setv3))), (2, [], .v (.c (.ptr 2 0))), (5, [], .v (.c (.p (.int .u32) setv2))), (7, [], .v (.c (.ptr 7 0))), (10, [], .v (.c (.p (.sl (.pr (.int .i64) (.pr (.int .i64) (.int .i64)))) n.2.2.1))), (11, [], .v (.c (.p (.int .i64) (n.2.2.1.length : Int)))), (12, [], .v (.c (.p (.int .i64) v12)))], [(2, [], .box [.p (.int .i64) n.1, .p (.int .i64) n.2.1, .p (.sl (.pr (.int .i64) (.pr (.int .i64) (.int .i64)))) n.2.2.1, .p (.int .u32) n.2.2.2.1, .p (.int .u32) n.2.2.2.2]), (7, [], .box [.p (.int .i64) ((n.2.2.1.getD (v12).toNat ((0 : Int), ((0 : Int), (0 : Int)))).1), .p (.int .i64) ((n.2.2.1.getD (v12).toNat ((0 : Int), ((0 : Int), (0 : Int)))).2.1), .p (.int .i64) ((n.2.2.1.getD (v12).toNat ((0 : Int), ((0 : Int), (0 : Int)))).2.2)])]⟩ : St)) (by kernel_rfl) ⟨o1, trivial, trivial, trivial, trivial⟩ ?_
      refine awl_nil ?_
      refine thenQ_n ?_
      refine aw_seq ?_
      refine aw_region ?_
      refine awl_runp 7 [1, 2, 5, 7, 10, 11, 12, 19, 20, 22] [2, 7] (ob := (True ∧ True ∧ True ∧ True ∧ ((decide ((n.2.2.1.getD (v12).toNat ((0 : Int), ((0 : Int), (0 : Int)))).2.1 < (0 : Int))) = true → True) ∧ ((decide ((n.2.2.1.getD (v12).toNat ((0 : Int), ((0 : Int), (0 : Int)))).2.1 < (0 : Int))) = true → True) ∧ ((decide ((n.2.2.1.getD (v12).toNat ((0 : Int), ((0 : Int), (0 : Int)))).2.1 < (0 : Int))) = true → True) ∧ True)) (st' := (⟨35, [(1, [], .v (.c (.p (.int .u32) setv3))), (2, [], .v (.c (.ptr 2 0))), (5, [], .v (.c (.p (.int .u32) setv2))), (7, [], .v (.c (.ptr 7 0))), (10, [], .v (.c (.p (.sl (.pr (.int .i64) (.pr (.int .i64) (.int .i64)))) n.2.2.1))), (11, [], .v (.c (.p (.int .i64) (n.2.2.1.length : Int)))), (12, [], .v (.c (.p (.int .i64) v12))), (19, [], .v (.c (.p .bool (decide ((n.2.2.1.getD (v12).toNat ((0 : Int), ((0 : Int), (0 : Int)))).2.1 < (0 : Int)))))), (20, [(19, true)], .v (.c (.p (.int .u32) setv3))), (22, [(19, true)], .v (.c (.p (.int .i64) ((n.2.2.1.getD (v12).toNat ((0 : Int), ((0 : Int), (0 : Int)))).1))))], [(2, [], .box [.p (.int .i64) n.1, .p (.int .i64) n.2.1, .p (.sl (.pr (.int .i64) (.pr (.int .i64) (.int .i64)))) n.2.2.1, .p (.int .u32) n.2.2.2.1, .p (.int .u32) n.2.2.2.2]), (7, [], .box [.p (.int .i64) ((n.2.2.1.getD (v12).toNat ((0 : Int), ((0 : Int), (0 : Int)))).1), .p (.int .i64) ((n.2.2.1.getD (v12).toNat ((0 : Int), ((0 : Int), (0 : Int)))).2.1), .p (.int .i64) ((n.2.2.1.getD (v12).toNat ((0 : Int), ((0 : Int), (0 : Int)))).2.2)])]⟩ : St)) (by kernel_rfl) ⟨trivial, trivial, trivial, trivial, (fun _ => trivial), (fun _ => trivial), (fun _ => trivial), trivial⟩ ?_
      refine awl_callk (p := [(19, true)]) (l := [toV1 (.int .u32) setv3, toV1 (.int .i64) ((n.2.2.1.getD (v12).toNat ((0 : Int), ((0 : Int), (0 : Int)))).1)]) (cl := []) false [.d (.int .u32), .d (.int .i64)] [1, 2, 5, 7, 10, 11, 12, 19, 23] [2, 7] (fun (ret23v : Bool) => ((((decide ((n.2.2.1.getD (v12).toNat ((0 : Int), ((0 : Int), (0 : Int)))).2.1 < (0 : Int))) && ret23v) = true → (0 ≤ (n.2.2.1.getD (v12).toNat ((0 : Int), ((0 : Int), (0 : Int)))).2.2 ∧ VC45_k2 v12 X2 (bOr .u32 setv3 (bShl .u32 (1 : Int) ((n.2.2.1.getD (v12).toNat ((0 : Int), ((0 : Int), (0 : Int)))).2.2))))) ∧ (((decide ((n.2.2.1.getD (v12).toNat ((0 : Int), ((0 : Int), (0 : Int)))).2.1 < (0 : Int))) && ret23v) = false → VC45_k2 v12 X2 setv3))) (fun ret23v => [toV1 .bool ret23v]) (fun ret23v => (⟨35, [(1, [], .v (.c (.p (.int .u32) setv3))), (2, [], .v (.c (.ptr 2 0))), (5, [], .v (.c (.p (.int .u32) setv2))), (7, [], .v (.c (.ptr 7 0))), (10, [], .v (.c (.p (.sl (.pr (.int .i64) (.pr (.int .i64) (.int .i64)))) n.2.2.1))), (11, [], .v (.c (.p (.int .i64) (n.2.2.1.length : Int)))), (12, [], .v (.c (.p (.int .i64) v12))), (19, [], .v (.c (.p .bool (decide ((n.2.2.1.getD (v12).toNat ((0 : Int), ((0 : Int), (0 : Int)))).2.1 < (0 : Int)))))), (23, [(19, true)], .v (.c (.p .bool ret23v)))], [(2, [], .box [.p (.int .i64) n.1, .p (.int .i64) n.2.1, .p (.sl (.pr (.int .i64) (.pr (.int .i64) (.int .i64)))) n.2.2.1, .p (.int .u32) n.2.2.2.1, .p (.int .u32) n.2.2.2.2]), (7, [], .box [.p (.int .i64) ((n.2.2.1.getD (v12).toNat ((0 : Int), ((0 : Int), (0 : Int)))).1), .p (.int .i64) ((n.2.2.1.getD (v12).toNat ((0 : Int), ((0 : Int), (0 : Int)))).2.1), .p (.int .i64) ((n.2.2.1.getD (v12).toNat ((0 : Int), ((0 : Int), (0 : Int)))).2.2)])]⟩ : St)) (by kernel_rfl) rfl (by kernel_rfl) rfl (by kernel_rfl) Try.call42 (by kernel_rfl) (fun ret23v => by kernel_rfl) (fun e => by cases e) (fun hg => link42 setv3 ((n.2.2.1.getD (v12).toNat ((0 : Int), ((0 : Int), (0 : Int)))).1) _ (by have := gcall_T h (show (decide ((n.2.2.1.getD (v12).toNat ((0 : Int), ((0 : Int), (0 : Int)))).2.1 < (0 : Int))) = true from hg); exact this)) (fun hg => ⟨false, by have := gcall_F h (show (decide ((n.2.2.1.getD (v12).toNat ((0 : Int), ((0 : Int), (0 : Int)))).2.1 < (0 : Int))) = false from hg); exact this⟩) (fun ret23v h => ?_)
      have h : ((((decide ((n.2.2.1.getD (v12).toNat ((0 : Int), ((0 : Int), (0 : Int)))).2.1 < (0 : Int))) && ret23v) = true → (0 ≤ (n.2.2.1.getD (v12).toNat ((0 : Int), ((0 : Int), (0 : Int)))).2.2 ∧ VC45_k2 v12 X2 (bOr .u32 setv3 (bShl .u32 (1 : Int) ((n.2.2.1.getD (v12).toNat ((0 : Int), ((0 : Int), (0 : Int)))).2.2))))) ∧ (((decide ((n.2.2.1.getD (v12).toNat ((0 : Int), ((0 : Int), (0 : Int)))).2.1 < (0 : Int))) && ret23v) = false → VC45_k2 v12 X2 setv3)) := h
      refine awl_runp 1 [1, 2, 5, 7, 10, 11, 12, 24] [2, 7] (ob := (True ∧ True)) (st' := (⟨35, [(1, [], .v (.c (.p (.int .u32) setv3))), (2, [], .v (.c (.ptr 2 0))), (5, [], .v (.c (.p (.int .u32) setv2))), (7, [], .v (.c (.ptr 7 0))), (10, [], .v (.c (.p (.sl (.pr (.int .i64) (.pr (.int .i64) (.int .i64)))) n.2.2.1))), (11, [], .v (.c (.p (.int .i64) (n.2.2.1.length : Int)))), (12, [], .v (.c (.p (.int .i64) v12))), (24, [], .v (.c (.p .bool ((decide ((n.2.2.1.getD (v12).toNat ((0 : Int), ((0 : Int), (0 : Int)))).2.1 < (0 : Int))) && ret23v))))], [(2, [], .box [.p (.int .i64) n.1, .p (.int .i64) n.2.1, .p (.sl (.pr (.int .i64) (.pr (.int .i64) (.int .i64)))) n.2.2.1, .p (.int .u32) n.2.2.2.1, .p (.int .u32) n.2.2.2.2]), (7, [], .box [.p (.int .i64) ((n.2.2.1.getD (v12).toNat ((0 : Int), ((0 : Int), (0 : Int)))).1), .p (.int .i64) ((n.2.2.1.getD (v12).toNat ((0 : Int), ((0 : Int), (0 : Int)))).2.1), .p (.int .i64) ((n.2.2.1.getD (v12).toNat ((0 : Int), ((0 : Int), (0 : Int)))).2.2)])]⟩ : St)) (by kernel_rfl) ⟨trivial, trivial⟩ ?_
      refine awl_nil ?_
      refine thenQ_n ?_
      refine withJoin (σ := Int) (fun s => (⟨35, [(1, [], .v (.c (.p (.int .u32) s))), (2, [], .v (.c (.ptr 2 0))), (5, [], .v (.c (.p (.int .u32) setv2))), (10, [], .v (.c (.p (.sl (.pr (.int .i64) (.pr (.int .i64) (.int .i64)))) n.2.2.1))), (11, [], .v (.c (.p (.int .i64) (n.2.2.1.length : Int)))), (12, [], .v (.c (.p (.int .i64) v12)))], [(2, [], .box [.p (.int .i64) n.1, .p (.int .i64) n.2.1, .p (.sl (.pr (.int .i64) (.pr (.int .i64) (.int .i64)))) n.2.2.1, .p (.int .u32) n.2.2.2.1, .p (.int .u32) n.2.2.2.2])]⟩ : St)) (fun s => VC45_k2 v12 X2 s) (fun setv4 h => ?_) (fun rest2 => ?_)
      · have h : VC45_k2 v12 X2 setv4 := h
        unfold VC45_k2 at h
        refine blockQ_n ?_
        refine thenQ_n ?_
        refine aw_region ?_
        obtain ⟨o1, h⟩ := h
        refine awl_runp 2 [1, 2, 5, 10, 11, 12] [2] (ob := (InR (v12 + (1 : Int)) ∧ True ∧ True)) (st' := (⟨35, [(1, [], .v (.c (.p (.int .u32) setv4))), (2, [], .v (.c (.ptr 2 0))), (5, [], .v (.c (.p (.int .u32) setv2))), (10, [], .v (.c (.p (.sl (.pr (.int .i64) (.pr (.int .i64) (.int .i64)))) n.2.2.1))), (11, [], .v (.c (.p (.int .i64) (n.2.2.1.length : Int)))), (12, [], .v (.c (.p (.int .i64) (v12 + (1 : Int)))))], [(2, [], .box [.p (.int .i64) n.1, .p (.int .i64) n.2.1, .p (.sl (.pr (.int .i64) (.pr (.int .i64) (.int .i64)))) n.2.2.1, .p (.int .u32) n.2.2.2.1, .p (.int .u32) n.2.2.2.2])]⟩ : St)) (by kernel_rfl) ⟨o1, trivial, trivial⟩ ?_
        refine awl_nil ?_
        exact thenQ_n ⟨(setv4, (v12 + (1 : Int))), rfl, h⟩
      · refine aw_cond (b := ((decide ((n.2.2.1.getD (v12).toNat ((0 : Int), ((0 : Int), (0 : Int)))).2.1 < (0 : Int))) && ret23v)) (by kernel_rfl) (fun hb => ?_) (fun hb => ?_)
        · have h := h.1 hb
          refine aw_region ?_
          obtain ⟨o1, h⟩ := h
          refine awl_runp 6 [1, 2, 5, 10, 11, 12] [2] (ob := (True ∧ True ∧ True ∧ 0 ≤ (n.2.2.1.getD (v12).toNat ((0 : Int), ((0 : Int), (0 : Int)))).2.2 ∧ True ∧ True ∧ True)) (st' := (⟨35, [(1, [], .v (.c (.p (.int .u32) (bOr .u32 setv3 (bShl .u32 (1 : Int) ((n.2.2.1.getD (v12).toNat ((0 : Int), ((0 : Int), (0 : Int)))).2.2)))))), (2, [], .v (.c (.ptr 2 0))), (5, [], .v (.c (.p (.int .u32) setv2))), (10, [], .v (.c (.p (.sl (.pr (.int .i64) (.pr (.int .i64) (.int .i64)))) n.2.2.1))), (11, [], .v (.c (.p (.int .i64) (n.2.2.1.length : Int)))), (12, [], .v (.c (.p (.int .i64) v12)))], [(2, [], .box [.p (.int .i64) n.1, .p (.int .i64) n.2.1, .p (.sl (.pr (.int .i64) (.pr (.int .i64) (.int .i64)))) n.2.2.1, .p (.int .u32) n.2.2.2.1, .p (.int .u32) n.2.2.2.2])]⟩ : St)) (by kernel_rfl) ⟨trivial, trivial, trivial, o1, trivial, trivial, trivial⟩ ?_
          refine awl_nil ?_
          exact rest2 (bOr .u32 setv3 (bShl .u32 (1 : Int) ((n.2.2.1.getD (v12).toNat ((0 : Int), ((0 : Int), (0 : Int)))).2.2))) h
        · have h := h.2 hb
          refine aw_conv [.prune [1, 2, 5, 10, 11, 12] [2]] (st' := (⟨35, [(1, [], .v (.c (.p (.int .u32) setv3))), (2, [], .v (.c (.ptr 2 0))), (5, [], .v (.c (.p (.int .u32) setv2))), (10, [], .v (.c (.p (.sl (.pr (.int .i64) (.pr (.int .i64) (.int .i64)))) n.2.2.1))), (11, [], .v (.c (.p (.int .i64) (n.2.2.1.length : Int)))), (12, [], .v (.c (.p (.int .i64) v12)))], [(2, [], .box [.p (.int .i64) n.1, .p (.int .i64) n.2.1, .p (.sl (.pr (.int .i64) (.pr (.int .i64) (.int .i64)))) n.2.2.1, .p (.int .u32) n.2.2.2.1, .p (.int .u32) n.2.2.2.2])]⟩ : St)) (by kernel_rfl) ?_
          refine aw_skip ?_
          exact rest2 setv3 h
    · have h := h.2 hb
      refine aw_conv [.prune [1, 2, 5] [2]] (st' := (⟨35, [(1, [], .v (.c (.p (.int .u32) setv3))), (2, [], .v (.c (.ptr 2 0))), (5, [], .v (.c (.p (.int .u32) setv2)))], [(2, [], .box [.p (.int .i64) n.1, .p (.int .i64) n.2.1, .p (.sl (.pr (.int .i64) (.pr (.int .i64) (.int .i64)))) n.2.2.1, .p (.int .u32) n.2.2.2.1, .p (.int .u32) n.2.2.2.2])]⟩ : St)) (by kernel_rfl) ?_
      refine aw_exit ?_
      refine thenQ_x ?_
      refine thenQ_x ?_
      refine blockQ_hit ?_
      exact rest1 setv3 h

-- coppicer/net.step
def VC46_k1 (n : (Int × (Int × ((List (Int × (Int × Int))) × (Int × Int))))) (K : Int → Prop) (out : Int) : Prop :=
  VC45 n out (fun (ret35v : Int) => K ret35v)

def VC46_k2 (v13 : Int) (X1 : Int × Int → Prop) (out2 : Int) : Prop :=
  (InR (v13 + (1 : Int)) ∧ X1 (out2, (v13 + (1 : Int))))

def VC46_l1 (n : (Int × (Int × ((List (Int × (Int × Int))) × (Int × Int))))) (setv : Int) (sv : Int) (K : Int → Prop) (out : Int) (v13 : Int) (X1 : Int × Int → Prop) : Prop :=
  (((decide (v13 < (n.2.2.1.length : Int))) = true → (inIdx v13 n.2.2.1.length ∧ gcall (α := Bool) (decide ((n.2.2.1.getD (v13).toNat ((0 : Int), ((0 : Int), (0 : Int)))).2.1 = sv)) (VC42 setv ((n.2.2.1.getD (v13).toNat ((0 : Int), ((0 : Int), (0 : Int)))).1)) false (fun (ret25v : Bool) => ((((decide ((n.2.2.1.getD (v13).toNat ((0 : Int), ((0 : Int), (0 : Int)))).2.1 = sv)) && ret25v) = true → (0 ≤ (n.2.2.1.getD (v13).toNat ((0 : Int), ((0 : Int), (0 : Int)))).2.2 ∧ VC46_k2 v13 X1 (bOr .u32 out (bShl .u32 (1 : Int) ((n.2.2.1.getD (v13).toNat ((0 : Int), ((0 : Int), (0 : Int)))).2.2))))) ∧ (((decide ((n.2.2.1.getD (v13).toNat ((0 : Int), ((0 : Int), (0 : Int)))).2.1 = sv)) && ret25v) = false → VC46_k2 v13 X1 out))))) ∧ ((decide (v13 < (n.2.2.1.length : Int))) = false → VC46_k1 n K out))

def VC46 (n : (Int × (Int × ((List (Int × (Int × Int))) × (Int × Int))))) (setv : Int) (sv : Int) (K : Int → Prop) : Prop :=
  Loop (σ := Int × Int) (fun s X => VC46_l1 n setv sv K s.1 s.2 X) ((0 : Int), (0 : Int))

set_option maxHeartbeats 4000000 in
theorem link46 (n : (Int × (Int × ((List (Int × (Int × Int))) × (Int × Int))))) (setv : Int) (sv : Int) (K : Int → Prop) (h : VC46 n setv sv K) : ACalls Try.prog 46 [toV1 (.pr (.int .i64) (.pr (.int .i64) (.pr (.sl (.pr (.int .i64) (.pr (.int .i64) (.int .i64)))) (.pr (.int .u32) (.int .u32))))) n, toV1 (.int .u32) setv, toV1 (.int .i64) sv] (fun res => ∃ y, res = (fun y => [toV1 (.int .u32) y]) y ∧ K y) := by
  refine acalls_of_aw [(.int .u32)] [.t 6] Try.func46 rfl rfl rfl ?_
  unfold VC46 at h
  refine aw_seq ?_
  refine aw_region ?_
  refine awl_runp 2 [1, 2, 3] [3] (ob := (True ∧ True ∧ True)) (st' := (⟨36, [(1, [], .v (.c (.p (.int .u32) setv))), (2, [], .v (.c (.p (.int .i64) sv))), (3, [], .v (.c (.ptr 3 0)))], [(3, [], .box [.p (.int .i64) n.1, .p (.int .i64) n.2.1, .p (.sl (.pr (.int .i64) (.pr (.int .i64) (.int .i64)))) n.2.2.1, .p (.int .u32) n.2.2.2.1, .p (.int .u32) n.2.2.2.2])]⟩ : St)) (by kernel_rfl) ⟨trivial, trivial, trivial⟩ ?_
  refine awl_nil ?_
  refine thenQ_n ?_
  refine aw_seq ?_
  refine aw_region ?_
  refine awl_runp 1 [1, 2, 3, 7] [3] (ob := (True ∧ True)) (st' := (⟨36, [(1, [], .v (.c (.p (.int .u32) setv))), (2, [], .v (.c (.p (.int .i64) sv))), (3, [], .v (.c (.ptr 3 0))), (7, [], .v (.c (.p (.int .u32) (0 : Int))))], [(3, [], .box [.p (.int .i64) n.1, .p (.int .i64) n.2.1, .p (.sl (.pr (.int .i64) (.pr (.int .i64) (.int .i64)))) n.2.2.1, .p (.int .u32) n.2.2.2.1, .p (.int .u32) n.2.2.2.2])]⟩ : St)) (by kernel_rfl) ⟨trivial, trivial⟩ ?_
  refine awl_nil ?_
  refine thenQ_n ?_
  refine aw_seq ?_
  refine aw_seq ?_
  refine aw_region ?_
  refine awl_runp 4 [1, 2, 3, 7, 11, 12, 13] [3] (ob := (True ∧ True ∧ True ∧ True ∧ True)) (st' := (⟨36, [(1, [], .v (.c (.p (.int .u32) setv))), (2, [], .v (.c (.p (.int .i64) sv))), (3, [], .v (.c (.ptr 3 0))), (7, [], .v (.c (.p (.int .u32) (0 : Int)))), (11, [], .v (.c (.p (.sl (.pr (.int .i64) (.pr (.int .i64) (.int .i64)))) n.2.2.1))), (12, [], .v (.c (.p (.int .i64) (n.2.2.1.length : Int)))), (13, [], .v (.c (.p (.int .i64) (0 : Int))))], [(3, [], .box [.p (.int .i64) n.1, .p (.int .i64) n.2.1, .p (.sl (.pr (.int .i64) (.pr (.int .i64) (.int .i64)))) n.2.2.1, .p (.int .u32) n.2.2.2.1, .p (.int .u32) n.2.2.2.2])]⟩ : St)) (by kernel_rfl) ⟨trivial, trivial, trivial, trivial, trivial⟩ ?_
  refine awl_nil ?_
  refine thenQ_n ?_
  refine withJoin (σ := Int) (fun s => (⟨36, [(3, [], .v (.c (.ptr 3 0))), (7, [], .v (.c (.p (.int .u32) s)))], [(3, [], .box [.p (.int .i64) n.1, .p (.int .i64) n.2.1, .p (.sl (.pr (.int .i64) (.pr (.int .i64) (.int .i64)))) n.2.2.1, .p (.int .u32) n.2.2.2.1, .p (.int .u32) n.2.2.2.2])]⟩ : St)) (fun s => VC46_k1 n K s) (fun out h => ?_) (fun rest1 => ?_)
  · have h : VC46_k1 n K out := h
    unfold VC46_k1 at h
    refine thenQ_n ?_
    refine aw_seq ?_
    refine aw_region ?_
    refine awl_runp 2 [33, 34] [] (ob := (True ∧ True ∧ True)) (st' := (⟨36, [(33, [], .v (.agg [.p (.int .i64) n.1, .p (.int .i64) n.2.1, .p (.sl (.pr (.int .i64) (.pr (.int .i64) (.int .i64)))) n.2.2.1, .p (.int .u32) n.2.2.2.1, .p (.int .u32) n.2.2.2.2])), (34, [], .v (.c (.p (.int .u32) out)))], []⟩ : St)) (by kernel_rfl) ⟨trivial, trivial, trivial⟩ ?_
    refine awl_callk (p := []) (l := [toV1 (.pr (.int .i64) (.pr (.int .i64) (.pr (.sl (.pr (.int .i64) (.pr (.int .i64) (.int .i64)))) (.pr (.int .u32) (.int .u32))))) n, toV1 (.int .u32) out]) (cl := []) false [.d (.pr (.int .i64) (.pr (.int .i64) (.pr (.sl (.pr (.int .i64) (.pr (.int .i64) (.int .i64)))) (.pr (.int .u32) (.int .u32))))), .d (.int .u32)] [35] [] (fun (ret35v : Int) => K ret35v) (fun ret35v => [toV1 (.int .u32) ret35v]) (fun ret35v => (⟨36, [(35, [], .v (.c (.p (.int .u32) ret35v)))], []⟩ : St)) (by kernel_rfl) rfl (by kernel_rfl) rfl (by kernel_rfl) Try.call45 (by kernel_rfl) (fun ret35v => by kernel_rfl) (fun e => by cases e) (fun hg => link45 n out _ h) (fun hg => noF hg) (fun ret35v h => ?_)
    have h : K ret35v := h
    refine awl_runp 1 [6] [] (ob := (True ∧ True)) (st' := (⟨36, [(6, [], .v (.c (.p (.int .u32) ret35v)))], []⟩ : St)) (by kernel_rfl) ⟨trivial, trivial⟩ ?_
    refine awl_nil ?_
    refine thenQ_n ?_
    refine aw_ret ?_
    exact retQ_r (σ := Int) (R := (fun y => [toV1 (.int .u32) y])) (ob := (True ∧ True)) ret35v (by kernel_rfl) ⟨trivial, trivial⟩ h
  · refine aw_block ?_
    refine aw_loop (σ := Int × Int) (fun s => (⟨36, [(1, [], .v (.c (.p (.int .u32) setv))), (2, [], .v (.c (.p (.int .i64) sv))), (3, [], .v (.c (.ptr 3 0))), (7, [], .v (.c (.p (.int .u32) s.1))), (11, [], .v (.c (.p (.sl (.pr (.int .i64) (.pr (.int .i64) (.int .i64)))) n.2.2.1))), (12, [], .v (.c (.p (.int .i64) (n.2.2.1.length : Int)))), (13, [], .v (.c (.p (.int .i64) s.2)))], [(3, [], .box [.p (.int .i64) n.1, .p (.int .i64) n.2.1, .p (.sl (.pr (.int .i64) (.pr (.int .i64) (.int .i64)))) n.2.2.1, .p (.int .u32) n.2.2.2.1, .p (.int .u32) n.2.2.2.2])]⟩ : St)) (fun s X => VC46_l1 n setv sv K s.1 s.2 X) (s0 := ((0 : Int), (0 : Int))) (fun s X1 h => ?_) h
    obtain ⟨out, v13⟩ := s
    have h : VC46_l1 n setv sv K out v13 X1 := h
    unfold VC46_l1 at h
    refine aw_seq ?_
    refine aw_region ?_
    refine awl_runp 1 [1, 2, 3, 7, 11, 12, 13, 14] [3] (ob := (True ∧ True)) (st' := (⟨36, [(1, [], .v (.c (.p (.int .u32) setv))), (2, [], .v (.c (.p (.int .i64) sv))), (3, [], .v (.c (.ptr 3 0))), (7, [], .v (.c (.p (.int .u32) out))), (11, [], .v (.c (.p (.sl (.pr (.int .i64) (.pr (.int .i64) (.int .i64)))) n.2.2.1))), (12, [], .v (.c (.p (.int .i64) (n.2.2.1.length : Int)))), (13, [], .v (.c (.p (.int .i64) v13))), (14, [], .v (.c (.p .bool (decide (v13 < (n.2.2.1.length : Int))))))], [(3, [], .box [.p (.int .i64) n.1, .p (.int .i64) n.2.1, .p (.sl (.pr (.int .i64) (.pr (.int .i64) (.int .i64)))) n.2.2.1, .p (.int .u32) n.2.2.2.1, .p (.int .u32) n.2.2.2.2])]⟩ : St)) (by kernel_rfl) ⟨trivial, trivial⟩ ?_
    refine awl_nil ?_
    refine thenQ_n ?_
    refine aw_seq ?_
    refine aw_cond (b := (decide (v13 < (n.2.2.1.length : Int)))) (by kernel_rfl) (fun hb => ?_) (fun hb => ?_)
    · have h := h.1 hb
      refine aw_skip ?_
      refine thenQ_n ?_
      refine aw_seq ?_
      refine aw_block ?_
      refine aw_seq ?_
      refine aw_region ?_
      obtain ⟨o1, h⟩ := h
      refine awl_runp 4 [1, 2, 3, 7, 9, 11, 12, 13] [3, 9] (ob := (inIdx v13 n.2.2.1.length ∧ True ∧ True ∧ True ∧ True)) (st' := (⟨36, [(1, [], .v (.c (.p (.int .u32) setv))), (2, [], .v (.c (.p (.int .i64) sv))), (3, [], .v (.c (.ptr 3 0))), (7, [], .v (.c (.p (.int .u32) out))), (9, [], .v (.c (.ptr 9 0))), (11, [], .v (.c (.p (.sl (.pr (.int .i64) (.pr (.int .i64) (.int .i64)))) n.2.2.1))), (12, [], .v (.c (.p (.int .i64) (n.2.2.1.length : Int)))), (13, [], .v (.c (.p (.int .i64) v13)))], [(3, [], .box [.p (.int .i64) n.1, .p (.int .i64) n.2.1, .p (.sl (.pr (.int .i64) (.pr (.int .i64) (.int .i64)))) n.2.2.1, .p (.int .u32) n.2.2.2.1, .p (.int .u32) n.2.2.2.2]), (9, [], .box [.p (.int .i64) ((n.2.2.1.getD (v13).toNat ((0 : Int), ((0 : Int), (0 : Int)))).1), .p (.int .i64) ((n.2.2.1.getD (v13).toNat ((0 : Int), ((0 : Int), (0 : Int)))).2.1), .p (.int .i64) ((n.2.2.1.getD (v13).toNat ((0 : Int), ((0 : Int), (0 : Int)))).2.2)])]⟩ : St)) (by kernel_rfl) ⟨o1, trivial, trivial, trivial, trivial⟩ ?_
      refine awl_nil ?_
      refine thenQ_n ?_
      refine aw_seq ?_
      refine aw_region ?_
      refine awl_runp 8 [1, 2, 3, 7, 9, 11, 12, 13, 21, 22, 24] [3, 9] (ob := (True ∧ True ∧ True ∧ True ∧ True ∧ ((decide ((n.2.2.1.getD (v13).toNat ((0 : Int), ((0 : Int), (0 : Int)))).2.1 = sv)) = true → True) ∧ ((decide ((n.2.2.1.getD (v13).toNat ((0 : Int), ((0 : Int), (0 : Int)))).2.1 = sv)) = true → True) ∧ ((decide ((n.2.2.1.getD (v13).toNat ((0 : Int), ((0 : Int), (0 : Int)))).2.1 = sv)) = true → True) ∧ True)) (st' := (⟨36, [(1, [], .v (.c (.p (.int .u32) setv))), (2, [], .v (.c (.p (.int .i64) sv))), (3, [], .v (.c (.ptr 3 0))), (7, [], .v (.c (.p (.int .u32) out))), (9, [], .v (.c (.ptr 9 0))), (11, [], .v (.c (.p (.sl (.pr (.int .i64) (.pr (.int .i64) (.int .i64)))) n.2.2.1))), (12, [], .v (.c (.p (.int .i64) (n.2.2.1.length : Int)))), (13, [], .v (.c (.p (.int .i64) v13))), (21, [], .v (.c (.p .bool (decide ((n.2.2.1.getD (v13).toNat ((0 : Int), ((0 : Int), (0 : Int)))).2.1 = sv))))), (22, [(21, true)], .v (.c (.p (.int .u32) setv))), (24, [(21, true)], .v (.c (.p (.int .i64) ((n.2.2.1.getD (v13).toNat ((0 : Int), ((0 : Int), (0 : Int)))).1))))], [(3, [], .box [.p (.int .i64) n.1, .p (.int .i64) n.2.1, .p (.sl (.pr (.int .i64) (.pr (.int .i64) (.int .i64)))) n.2.2.1, .p (.int .u32) n.2.2.2.1, .p (.int .u32) n.2.2.2.2]), (9, [], .box [.p (.int .i64) ((n.2.2.1.getD (v13).toNat ((0 : Int), ((0 : Int), (0 : Int)))).1), .p (.int .i64) ((n.2.2.1.getD (v13).toNat ((0 : Int), ((0 : Int), (0 : Int)))).2.1), .p (.int .i64) ((n.2.2.1.getD (v13).toNat ((0 : Int), ((0 : Int), (0 : Int)))).2.2)])]⟩ : St)) (by kernel_rfl) ⟨trivial, trivial, trivial, trivial, trivial, (fun _ => trivial), (fun _ => trivial), (fun _ => trivial), trivial⟩ ?_
      refine awl_callk (p := [(21, true)]) (l := [toV1 (.int .u32) setv, toV1 (.int .i64) ((n.2.2.1.getD (v13).toNat ((0 : Int), ((0 : Int), (0 : Int)))).1)]) (cl := []) false [.d (.int .u32), .d (.int .i64)] [1, 2, 3, 7, 9, 11, 12, 13, 21, 25] [3, 9] (fun (ret25v : Bool) => ((((decide ((n.2.2.1.getD (v13).toNat ((0 : Int), ((0 : Int), (0 : Int)))).2.1 = sv)) && ret25v) = true → (0 ≤ (n.2.2.1.getD (v13).toNat ((0 : Int), ((0 : Int), (0 : Int)))).2.2 ∧ VC46_k2 v13 X1 (bOr .u32 out (bShl .u32 (1 : Int) ((n.2.2.1.getD (v13).toNat ((0 : Int), ((0 : Int), (0 : Int)))).2.2))))) ∧ (((decide ((n.2.2.1.getD (v13).toNat ((0 : Int), ((0 : Int), (0 : Int)))).2.1 = sv)) && ret25v) = false → VC46_k2 v13 X1 out))) (fun ret25v => [toV1 .bool ret25v]) (fun ret25v => (⟨36, [(1, [], .v (.c (.p (.int .u32) setv))), (2, [], .v (.c (.p (.int .i64) sv))), (3, [], .v (.c (.ptr 3 0))), (7, [], .v (.c (.p (.int .u32) out))), (9, [], .v (.c (.ptr 9 0))), (11, [], .v (.c (.p (.sl (.pr (.int .i64) (.pr (.int .i64) (.int .i64)))) n.2.2.1))), (12, [], .v (.c (.p (.int .i64) (n.2.2.1.length : Int)))), (13, [], .v (.c (.p (.int .i64) v13))), (21, [], .v (.c (.p .bool (decide ((n.2.2.1.getD (v13).toNat ((0 : Int), ((0 : Int), (0 : Int)))).2.1 = sv))))), (25, [(21, true)], .v (.c (.p .bool ret25v)))], [(3, [], .box [.p (.int .i64) n.1, .p (.int .i64) n.2.1, .p (.sl (.pr (.int .i64) (.pr (.int .i64) (.int .i64)))) n.2.2.1, .p (.int .u32) n.2.2.2.1, .p (.int .u32) n.2.2.2.2]), (9, [], .box [.p (.int .i64) ((n.2.2.1.getD (v13).toNat ((0 : Int), ((0 : Int), (0 : Int)))).1), .p (.int .i64) ((n.2.2.1.getD (v13).toNat ((0 : Int), ((0 : Int), (0 : Int)))).2.1), .p (.int .i64) ((n.2.2.1.getD (v13).toNat ((0 : Int), ((0 : Int), (0 : Int)))).2.2)])]⟩ : St)) (by kernel_rfl) rfl (by kernel_rfl) rfl (by kernel_rfl) Try.call42 (by kernel_rfl) (fun ret25v => by kernel_rfl) (fun e => by cases e) (fun hg => link42 setv ((n.2.2.1.getD (v13).toNat ((0 : Int), ((0 : Int), (0 : Int)))).1) _ (by have := gcall_T h (show (decide ((n.2.2.1.getD (v13).toNat ((0 : Int), ((0 : Int), (0 : Int)))).2.1 = sv)) = true from hg); exact this)) (fun hg => ⟨false, by have := gcall_F h (show (decide ((n.2.2.1.getD (v13).toNat ((0 : Int), ((0 : Int), (0 : Int)))).2.1 = sv)) = false from hg); exact this⟩) (fun ret25v h => ?_)
      have h : ((((decide ((n.2.2.1.getD (v13).toNat ((0 : Int), ((0 : Int), (0 : Int)))).2.1 = sv)) && ret25v) = true → (0 ≤ (n.2.2.1.getD (v13).toNat ((0 : Int), ((0 : Int), (0 : Int)))).2.2 ∧ VC46_k2 v13 X1 (bOr .u32 out (bShl .u32 (1 : Int) ((n.2.2.1.getD (v13).toNat ((0 : Int), ((0 : Int), (0 : Int)))).2.2))))) ∧ (((decide ((n.2.2.1.getD (v13).toNat ((0 : Int), ((0 : Int), (0 : Int)))).2.1 = sv)) && ret25v) = false → VC46_k2 v13 X1 out)) := h
      refine awl_runp 1 [1, 2, 3, 7, 9, 11, 12, 13, 26] [3, 9] (ob := (True ∧ True)) (st' := (⟨36, [(1, [], .v (.c (.p (.int .u32) setv))), (2, [], .v (.c (.p (.int .i64) sv))), (3, [], .v (.c (.ptr 3 0))), (7, [], .v (.c (.p (.int .u32) out))), (9, [], .v (.c (.ptr 9 0))), (11, [], .v (.c (.p (.sl (.pr (.int .i64) (.pr (.int .i64) (.int .i64)))) n.2.2.1))), (12, [], .v (.c (.p (.int .i64) (n.2.2.1.length : Int)))), (13, [], .v (.c (.p (.int .i64) v13))), (26, [], .v (.c (.p .bool ((decide ((n.2.2.1.getD (v13).toNat ((0 : Int), ((0 : Int), (0 : Int)))).2.1 = sv)) && ret25v))))], [(3, [], .box [.p (.int .i64) n.1, .p (.int .i64) n.2.1, .p (.sl (.pr (.int .i64) (.pr (.int .i64) (.int .i64)))) n.2.2.1, .p (.int .u32) n.2.2.2.1, .p (.int .u32) n.2.2.2.2]), (9, [], .box [.p (.int .i64) ((n.2.2.1.getD (v13).toNat ((0 : Int), ((0 : Int), (0 : Int)))).1), .p (.int .i64) ((n.2.2.1.getD (v13).toNat ((0 : Int), ((0 : Int), (0 : Int)))).2.1), .p (.int .i64) ((n.2.2.1.getD (v13).toNat ((0 : Int), ((0 : Int), (0 : Int)))).2.2)])]⟩ : St)) (by kernel_rfl) ⟨trivial, trivial⟩ ?_
      refine awl_nil ?_
      refine thenQ_n ?_
      refine withJoin (σ := Int) (fun s => (⟨36, [(1, [], .v (.c (.p (.int .u32) setv))), (2, [], .v (.c (.p (.int .i64) sv))), (3, [], .v (.c (.ptr 3 0))), (7, [], .v (.c (.p (.int .u32) s))), (11, [], .v (.c (.p (.sl (.pr (.int .i64) (.pr (.int .i64) (.int .i64)))) n.2.2.1))), (12, [], .v (.c (.p (.int .i64) (n.2.2.1.length : Int)))), (13, [], .v (.c (.p (.int .i64) v13)))], [(3, [], .box [.p (.int .i64) n.1, .p (.int .i64) n.2.1, .p (.sl (.pr (.int .i64) (.pr (.int .i64) (.int .i64)))) n.2.2.1, .p (.int .u32) n.2.2.2.1, .p (.int .u32) n.2.2.2.2])]⟩ : St)) (fun s => VC46_k2 v13 X1 s) (fun out2 h => ?_) (fun rest2 => ?_)
      · have h : VC46_k2 v13 X1 out2 := h
        unfold VC46_k2 at h
        refine blockQ_n ?_
        refine thenQ_n ?_
        refine aw_region ?_
        obtain ⟨o1, h⟩ := h
        refine awl_runp 2 [1, 2, 3, 7, 11, 12, 13] [3] (ob := (InR (v13 + (1 : Int)) ∧ True ∧ True)) (st' := (⟨36, [(1, [], .v (.c (.p (.int .u32) setv))), (2, [], .v (.c (.p (.int .i64) sv))), (3, [], .v (.c (.ptr 3 0))), (7, [], .v (.c (.p (.int .u32) out2))), (11, [], .v (.c (.p (.sl (.pr (.int .i64) (.pr (.int .i64) (.int .i64)))) n.2.2.1))), (12, [], .v (.c (.p (.int .i64) (n.2.2.1.length : Int)))), (13, [], .v (.c (.p (.int .i64) (v13 + (1 : Int)))))], [(3, [], .box [.p (.int .i64) n.1, .p (.int .i64) n.2.1, .p (.sl (.pr (.int .i64) (.pr (.int .i64) (.int .i64)))) n.2.2.1, .p (.int .u32) n.2.2.2.1, .p (.int .u32) n.2.2.2.2])]⟩ : St)) (by kernel_rfl) ⟨o1, trivial, trivial⟩ ?_
        refine awl_nil ?_
        exact thenQ_n ⟨(out2, (v13 + (1 : Int))), rfl, h⟩
      · refine aw_cond (b := ((decide ((n.2.2.1.getD (v13).toNat ((0 : Int), ((0 : Int), (0 : Int)))).2.1 = sv)) && ret25v)) (by kernel_rfl) (fun hb => ?_) (fun hb => ?_)
        · have h := h.1 hb
          refine aw_region ?_
          obtain ⟨o1, h⟩ := h
          refine awl_runp 6 [1, 2, 3, 7, 11, 12, 13] [3] (ob := (True ∧ True ∧ True ∧ 0 ≤ (n.2.2.1.getD (v13).toNat ((0 : Int), ((0 : Int), (0 : Int)))).2.2 ∧ True ∧ True ∧ True)) (st' := (⟨36, [(1, [], .v (.c (.p (.int .u32) setv))), (2, [], .v (.c (.p (.int .i64) sv))), (3, [], .v (.c (.ptr 3 0))), (7, [], .v (.c (.p (.int .u32) (bOr .u32 out (bShl .u32 (1 : Int) ((n.2.2.1.getD (v13).toNat ((0 : Int), ((0 : Int), (0 : Int)))).2.2)))))), (11, [], .v (.c (.p (.sl (.pr (.int .i64) (.pr (.int .i64) (.int .i64)))) n.2.2.1))), (12, [], .v (.c (.p (.int .i64) (n.2.2.1.length : Int)))), (13, [], .v (.c (.p (.int .i64) v13)))], [(3, [], .box [.p (.int .i64) n.1, .p (.int .i64) n.2.1, .p (.sl (.pr (.int .i64) (.pr (.int .i64) (.int .i64)))) n.2.2.1, .p (.int .u32) n.2.2.2.1, .p (.int .u32) n.2.2.2.2])]⟩ : St)) (by kernel_rfl) ⟨trivial, trivial, trivial, o1, trivial, trivial, trivial⟩ ?_
          refine awl_nil ?_
          exact rest2 (bOr .u32 out (bShl .u32 (1 : Int) ((n.2.2.1.getD (v13).toNat ((0 : Int), ((0 : Int), (0 : Int)))).2.2))) h
        · have h := h.2 hb
          refine aw_conv [.prune [1, 2, 3, 7, 11, 12, 13] [3]] (st' := (⟨36, [(1, [], .v (.c (.p (.int .u32) setv))), (2, [], .v (.c (.p (.int .i64) sv))), (3, [], .v (.c (.ptr 3 0))), (7, [], .v (.c (.p (.int .u32) out))), (11, [], .v (.c (.p (.sl (.pr (.int .i64) (.pr (.int .i64) (.int .i64)))) n.2.2.1))), (12, [], .v (.c (.p (.int .i64) (n.2.2.1.length : Int)))), (13, [], .v (.c (.p (.int .i64) v13)))], [(3, [], .box [.p (.int .i64) n.1, .p (.int .i64) n.2.1, .p (.sl (.pr (.int .i64) (.pr (.int .i64) (.int .i64)))) n.2.2.1, .p (.int .u32) n.2.2.2.1, .p (.int .u32) n.2.2.2.2])]⟩ : St)) (by kernel_rfl) ?_
          refine aw_skip ?_
          exact rest2 out h
    · have h := h.2 hb
      refine aw_conv [.prune [3, 7] [3]] (st' := (⟨36, [(3, [], .v (.c (.ptr 3 0))), (7, [], .v (.c (.p (.int .u32) out)))], [(3, [], .box [.p (.int .i64) n.1, .p (.int .i64) n.2.1, .p (.sl (.pr (.int .i64) (.pr (.int .i64) (.int .i64)))) n.2.2.1, .p (.int .u32) n.2.2.2.1, .p (.int .u32) n.2.2.2.2])]⟩ : St)) (by kernel_rfl) ?_
      refine aw_exit ?_
      refine thenQ_x ?_
      refine thenQ_x ?_
      refine blockQ_hit ?_
      exact rest1 out h

-- coppicer/net.Run
def VC20_k1 (n : (Int × (Int × ((List (Int × (Int × Int))) × (Int × Int))))) (K : Int × Bool × Int → Prop) (setv : Int) : Prop :=
  K (setv, (!decide ((bAnd .u32 setv n.2.2.2.2) = (0 : Int))), (0 : Int))

def VC20_l1 (n : (Int × (Int × ((List (Int × (Int × Int))) × (Int × Int))))) (w : (List Int)) (K : Int × Bool × Int → Prop) (setv : Int) (v30 : Int) (X1 : Int × Int → Prop) : Prop :=
  (((decide (v30 < (w.length : Int))) = true → (inIdx v30 w.length ∧ VC46 n setv (w.getD (v30).toNat (0 : Int)) (fun (ret37v : Int) => (InR (v30 + (1 : Int)) ∧ X1 (ret37v, (v30 + (1 : Int))))))) ∧ ((decide (v30 < (w.length : Int))) = false → VC20_k1 n K setv))

def VC20 (n : (Int × (Int × ((List (Int × (Int × Int))) × (Int × Int))))) (w : (List Int)) (K : Int × Bool × Int → Prop) : Prop :=
  VC44 n (fun (ret13v : Int) => (((!decide (ret13v = (0 : Int))) = true → K ((0 : Int), false, ret13v)) ∧ ((!decide (ret13v = (0 : Int))) = false → VC41 n.2.1 w (fun (ret20v : Int) => (((!decide (ret20v = (0 : Int))) = true → K ((0 : Int), false, ret20v)) ∧ ((!decide (ret20v = (0 : Int))) = false → VC45 n n.2.2.2.1 (fun (ret27v : Int) => Loop (σ := Int × Int) (fun s X => VC20_l1 n w K s.1 s.2 X) (ret27v, (0 : Int)))))))))

set_option maxHeartbeats 4000000 in
theorem link20 (n : (Int × (Int × ((List (Int × (Int × Int))) × (Int × Int))))) (w : (List Int)) (K : Int × Bool × Int → Prop) (h : VC20 n w K) : ACalls Try.prog 20 [toV1 (.pr (.int .i64) (.pr (.int .i64) (.pr (.sl (.pr (.int .i64) (.pr (.int .i64) (.int .i64)))) (.pr (.int .u32) (.int .u32))))) n, toV1 (.sl (.int .i64)) w] (fun res => ∃ y, res = (fun y => [toV1 (.int .u32) y.1, toV1 .bool y.2.1, toV1 (.int .i64) y.2.2]) y ∧ K y) := by
  refine acalls_of_aw [(.int .u32), .bool, (.int .i64)] [.t 4, .t 5, .t 6] Try.func20 rfl rfl rfl ?_
  unfold VC20 at h
  refine aw_seq ?_
  refine aw_region ?_
  refine awl_runp 4 [1, 2] [2] (ob := (True ∧ True ∧ True ∧ True ∧ True)) (st' := (⟨45, [(1, [], .v (.c (.p (.sl (.int .i64)) w))), (2, [], .v (.c (.ptr 2 0)))], [(2, [], .box [.p (.int .i64) n.1, .p (.int .i64) n.2.1, .p (.sl (.pr (.int .i64) (.pr (.int .i64) (.int .i64)))) n.2.2.1, .p (.int .u32) n.2.2.2.1, .p (.int .u32) n.2.2.2.2])]⟩ : St)) (by kernel_rfl) ⟨trivial, trivial, trivial, trivial, trivial⟩ ?_
  refine awl_nil ?_
  refine thenQ_n ?_
  refine aw_seq ?_
  refine aw_seq ?_
  refine aw_region ?_
  refine awl_runp 1 [1, 2, 12] [2] (ob := (True ∧ True)) (st' := (⟨45, [(1, [], .v (.c (.p (.sl (.int .i64)) w))), (2, [], .v (.c (.ptr 2 0))), (12, [], .v (.agg [.p (.int .i64) n.1, .p (.int .i64) n.2.1, .p (.sl (.pr (.int .i64) (.pr (.int .i64) (.int .i64)))) n.2.2.1, .p (.int .u32) n.2.2.2.1, .p (.int .u32) n.2.2.2.2]))], [(2, [], .box [.p (.int .i64) n.1, .p (.int .i64) n.2.1, .p (.sl (.pr (.int .i64) (.pr (.int .i64) (.int .i64)))) n.2.2.1, .p (.int .u32) n.2.2.2.1, .p (.int .u32) n.2.2.2.2])]⟩ : St)) (by kernel_rfl) ⟨trivial, trivial⟩ ?_
  refine awl_callk (p := []) (l := [toV1 (.pr (.int .i64) (.pr (.int .i64) (.pr (.sl (.pr (.int .i64) (.pr (.int .i64) (.int .i64)))) (.pr (.int .u32) (.int .u32))))) n]) (cl := []) false [.d (.pr (.int .i64) (.pr (.int .i64) (.pr (.sl (.pr (.int .i64) (.pr (.int .i64) (.int .i64)))) (.pr (.int .u32) (.int .u32)))))] [1, 2, 13] [2] (fun (ret13v : Int) => (((!decide (ret13v = (0 : Int))) = true → K ((0 : Int), false, ret13v)) ∧ ((!decide (ret13v = (0 : Int))) = false → VC41 n.2.1 w (fun (ret20v : Int) => (((!decide (ret20v = (0 : Int))) = true → K ((0 : Int), false, ret20v)) ∧ ((!decide (ret20v = (0 : Int))) = false → VC45 n n.2.2.2.1 (fun (ret27v : Int) => Loop (σ := Int × Int) (fun s X => VC20_l1 n w K s.1 s.2 X) (ret27v, (0 : Int))))))))) (fun ret13v => [toV1 (.int .i64) ret13v]) (fun ret13v => (⟨45, [(1, [], .v (.c (.p (.sl (.int .i64)) w))), (2, [], .v (.c (.ptr 2 0))), (13, [], .v (.c (.p (.int .i64) ret13v)))], [(2, [], .box [.p (.int .i64) n.1, .p (.int .i64) n.2.1, .p (.sl (.pr (.int .i64) (.pr (.int .i64) (.int .i64)))) n.2.2.1, .p (.int .u32) n.2.2.2.1, .p (.int .u32) n.2.2.2.2])]⟩ : St)) (by kernel_rfl) rfl (by kernel_rfl) rfl (by kernel_rfl) Try.call44 (by kernel_rfl) (fun ret13v => by kernel_rfl) (fun e => by cases e) (fun hg => link44 n _ h) (fun hg => noF hg) (fun ret13v h => ?_)
  have h : (((!decide (ret13v = (0 : Int))) = true → K ((0 : Int), false, ret13v)) ∧ ((!decide (ret13v = (0 : Int))) = false → VC41 n.2.1 w (fun (ret20v : Int) => (((!decide (ret20v = (0 : Int))) = true → K ((0 : Int), false, ret20v)) ∧ ((!decide (ret20v = (0 : Int))) = false → VC45 n n.2.2.2.1 (fun (ret27v : Int) => Loop (σ := Int × Int) (fun s X => VC20_l1 n w K s.1 s.2 X) (ret27v, (0 : Int)))))))) := h
  refine awl_runp 1 [1, 2, 7] [2] (ob := (True ∧ True)) (st' := (⟨45, [(1, [], .v (.c (.p (.sl (.int .i64)) w))), (2, [], .v (.c (.ptr 2 0))), (7, [], .v (.c (.p (.int .i64) ret13v)))], [(2, [], .box [.p (.int .i64) n.1, .p (.int .i64) n.2.1, .p (.sl (.pr (.int .i64) (.pr (.int .i64) (.int .i64)))) n.2.2.1, .p (.int .u32) n.2.2.2.1, .p (.int .u32) n.2.2.2.2])]⟩ : St)) (by kernel_rfl) ⟨trivial, trivial⟩ ?_
  refine awl_nil ?_
  refine thenQ_n ?_
  refine aw_seq ?_
  refine aw_region ?_
  refine awl_runp 2 [1, 2, 7, 15] [2] (ob := (True ∧ True ∧ True)) (st' := (⟨45, [(1, [], .v (.c (.p (.sl (.int .i64)) w))), (2, [], .v (.c (.ptr 2 0))), (7, [], .v (.c (.p (.int .i64) ret13v))), (15, [], .v (.c (.p .bool (!decide (ret13v = (0 : Int))))))], [(2, [], .box [.p (.int .i64) n.1, .p (.int .i64) n.2.1, .p (.sl (.pr (.int .i64) (.pr (.int .i64) (.int .i64)))) n.2.2.1, .p (.int .u32) n.2.2.2.1, .p (.int .u32) n.2.2.2.2])]⟩ : St)) (by kernel_rfl) ⟨trivial, trivial, trivial⟩ ?_
  refine awl_nil ?_
  refine thenQ_n ?_
  refine aw_cond (b := (!decide (ret13v = (0 : Int)))) (by kernel_rfl) (fun hb => ?_) (fun hb => ?_)
  · have h := h.1 hb
    refine aw_seq ?_
    refine aw_region ?_
    refine awl_runp 4 [4, 5, 6] [] (ob := (True ∧ True ∧ True ∧ True ∧ True)) (st' := (⟨45, [(4, [], .v (.c (.p (.int .u32) (0 : Int)))), (5, [], .v (.c (.p .bool false))), (6, [], .v (.c (.p (.int .i64) ret13v)))], []⟩ : St)) (by kernel_rfl) ⟨trivial, trivial, trivial, trivial, trivial⟩ ?_
    refine awl_nil ?_
    refine thenQ_n ?_
    refine aw_ret ?_
    refine thenQ_r ?_
    exact retQ_r (σ := Int × Bool × Int) (R := (fun y => [toV1 (.int .u32) y.1, toV1 .bool y.2.1, toV1 (.int .i64) y.2.2])) (ob := (True ∧ True ∧ True ∧ True)) ((0 : Int), false, ret13v) (by kernel_rfl) ⟨trivial, trivial, trivial, trivial⟩ h
  · have h := h.2 hb
    refine aw_skip ?_
    refine thenQ_n ?_
    refine aw_seq ?_
    refine aw_seq ?_
    refine aw_region ?_
    refine awl_runp 3 [1, 2, 18, 19] [2] (ob := (True ∧ True ∧ True ∧ True)) (st' := (⟨45, [(1, [], .v (.c (.p (.sl (.int .i64)) w))), (2, [], .v (.c (.ptr 2 0))), (18, [], .v (.c (.p (.int .i64) n.2.1))), (19, [], .v (.c (.p (.sl (.int .i64)) w)))], [(2, [], .box [.p (.int .i64) n.1, .p (.int .i64) n.2.1, .p (.sl (.pr (.int .i64) (.pr (.int .i64) (.int .i64)))) n.2.2.1, .p (.int .u32) n.2.2.2.1, .p (.int .u32) n.2.2.2.2])]⟩ : St)) (by kernel_rfl) ⟨trivial, trivial, trivial, trivial⟩ ?_
    refine awl_callk (p := []) (l := [toV1 (.int .i64) n.2.1, toV1 (.sl (.int .i64)) w]) (cl := []) false [.d (.int .i64), .d (.sl (.int .i64))] [1, 2, 20] [2] (fun (ret20v : Int) => (((!decide (ret20v = (0 : Int))) = true → K ((0 : Int), false, ret20v)) ∧ ((!decide (ret20v = (0 : Int))) = false → VC45 n n.2.2.2.1 (fun (ret27v : Int) => Loop (σ := Int × Int) (fun s X => VC20_l1 n w K s.1 s.2 X) (ret27v, (0 : Int)))))) (fun ret20v => [toV1 (.int .i64) ret20v]) (fun ret20v => (⟨45, [(1, [], .v (.c (.p (.sl (.int .i64)) w))), (2, [], .v (.c (.ptr 2 0))), (20, [], .v (.c (.p (.int .i64) ret20v)))], [(2, [], .box [.p (.int .i64) n.1, .p (.int .i64) n.2.1, .p (.sl (.pr (.int .i64) (.pr (.int .i64) (.int .i64)))) n.2.2.1, .p (.int .u32) n.2.2.2.1, .p (.int .u32) n.2.2.2.2])]⟩ : St)) (by kernel_rfl) rfl (by kernel_rfl) rfl (by kernel_rfl) Try.call41 (by kernel_rfl) (fun ret20v => by kernel_rfl) (fun e => by cases e) (fun hg => link41 n.2.1 w _ h) (fun hg => noF hg) (fun ret20v h => ?_)
    have h : (((!decide (ret20v = (0 : Int))) = true → K ((0 : Int), false, ret20v)) ∧ ((!decide (ret20v = (0 : Int))) = false → VC45 n n.2.2.2.1 (fun (ret27v : Int) => Loop (σ := Int × Int) (fun s X => VC20_l1 n w K s.1 s.2 X) (ret27v, (0 : Int))))) := h
    refine awl_runp 1 [1, 2, 8] [2] (ob := (True ∧ True)) (st' := (⟨45, [(1, [], .v (.c (.p (.sl (.int .i64)) w))), (2, [], .v (.c (.ptr 2 0))), (8, [], .v (.c (.p (.int .i64) ret20v)))], [(2, [], .box [.p (.int .i64) n.1, .p (.int .i64) n.2.1, .p (.sl (.pr (.int .i64) (.pr (.int .i64) (.int .i64)))) n.2.2.1, .p (.int .u32) n.2.2.2.1, .p (.int .u32) n.2.2.2.2])]⟩ : St)) (by kernel_rfl) ⟨trivial, trivial⟩ ?_
    refine awl_nil ?_
    refine thenQ_n ?_
    refine aw_seq ?_
    refine aw_region ?_
    refine awl_runp 2 [1, 2, 8, 22] [2] (ob := (True ∧ True ∧ True)) (st' := (⟨45, [(1, [], .v (.c (.p (.sl (.int .i64)) w))), (2, [], .v (.c (.ptr 2 0))), (8, [], .v (.c (.p (.int .i64) ret20v))), (22, [], .v (.c (.p .bool (!decide (ret20v = (0 : Int))))))], [(2, [], .box [.p (.int .i64) n.1, .p (.int .i64) n.2.1, .p (.sl (.pr (.int .i64) (.pr (.int .i64) (.int .i64)))) n.2.2.1, .p (.int .u32) n.2.2.2.1, .p (.int .u32) n.2.2.2.2])]⟩ : St)) (by kernel_rfl) ⟨trivial, trivial, trivial⟩ ?_
    refine awl_nil ?_
    refine thenQ_n ?_
    refine aw_cond (b := (!decide (ret20v = (0 : Int)))) (by kernel_rfl) (fun hb => ?_) (fun hb => ?_)
    · have h := h.1 hb
      refine aw_seq ?_
      refine aw_region ?_
      refine awl_runp 4 [4, 5, 6] [] (ob := (True ∧ True ∧ True ∧ True ∧ True)) (st' := (⟨45, [(4, [], .v (.c (.p (.int .u32) (0 : Int)))), (5, [], .v (.c (.p .bool false))), (6, [], .v (.c (.p (.int .i64) ret20v)))], []⟩ : St)) (by kernel_rfl) ⟨trivial, trivial, trivial, trivial, trivial⟩ ?_
      refine awl_nil ?_
      refine thenQ_n ?_
      refine aw_ret ?_
      refine thenQ_r ?_
      exact retQ_r (σ := Int × Bool × Int) (R := (fun y => [toV1 (.int .u32) y.1, toV1 .bool y.2.1, toV1 (.int .i64) y.2.2])) (ob := (True ∧ True ∧ True ∧ True)) ((0 : Int), false, ret20v) (by kernel_rfl) ⟨trivial, trivial, trivial, trivial⟩ h
    · have h := h.2 hb
      refine aw_skip ?_
      refine thenQ_n ?_
      refine aw_seq ?_
      refine aw_region ?_
      refine awl_runp 3 [1, 2, 24, 26] [2] (ob := (True ∧ True ∧ True ∧ True)) (st' := (⟨45, [(1, [], .v (.c (.p (.sl (.int .i64)) w))), (2, [], .v (.c (.ptr 2 0))), (24, [], .v (.agg [.p (.int .i64) n.1, .p (.int .i64) n.2.1, .p (.sl (.pr (.int .i64) (.pr (.int .i64) (.int .i64)))) n.2.2.1, .p (.int .u32) n.2.2.2.1, .p (.int .u32) n.2.2.2.2])), (26, [], .v (.c (.p (.int .u32) n.2.2.2.1)))], [(2, [], .box [.p (.int .i64) n.1, .p (.int .i64) n.2.1, .p (.sl (.pr (.int .i64) (.pr (.int .i64) (.int .i64)))) n.2.2.1, .p (.int .u32) n.2.2.2.1, .p (.int .u32) n.2.2.2.2])]⟩ : St)) (by kernel_rfl) ⟨trivial, trivial, trivial, trivial⟩ ?_
      refine awl_callk (p := []) (l := [toV1 (.pr (.int .i64) (.pr (.int .i64) (.pr (.sl (.pr (.int .i64) (.pr (.int .i64) (.int .i64)))) (.pr (.int .u32) (.int .u32))))) n, toV1 (.int .u32) n.2.2.2.1]) (cl := []) false [.d (.pr (.int .i64) (.pr (.int .i64) (.pr (.sl (.pr (.int .i64) (.pr (.int .i64) (.int .i64)))) (.pr (.int .u32) (.int .u32))))), .d (.int .u32)] [1, 2, 27] [2] (fun (ret27v : Int) => Loop (σ := Int × Int) (fun s X => VC20_l1 n w K s.1 s.2 X) (ret27v, (0 : Int))) (fun ret27v => [toV1 (.int .u32) ret27v]) (fun ret27v => (⟨45, [(1, [], .v (.c (.p (.sl (.int .i64)) w))), (2, [], .v (.c (.ptr 2 0))), (27, [], .v (.c (.p (.int .u32) ret27v)))], [(2, [], .box [.p (.int .i64) n.1, .p (.int .i64) n.2.1, .p (.sl (.pr (.int .i64) (.pr (.int .i64) (.int .i64)))) n.2.2.1, .p (.int .u32) n.2.2.2.1, .p (.int .u32) n.2.2.2.2])]⟩ : St)) (by kernel_rfl) rfl (by kernel_rfl) rfl (by kernel_rfl) Try.call45 (by kernel_rfl) (fun ret27v => by kernel_rfl) (fun e => by cases e) (fun hg => link45 n n.2.2.2.1 _ h) (fun hg => noF hg) (fun ret27v h => ?_)
      have h : Loop (σ := Int × Int) (fun s X => VC20_l1 n w K s.1 s.2 X) (ret27v, (0 : Int)) := h
      refine awl_runp 1 [1, 2, 9] [2] (ob := (True ∧ True)) (st' := (⟨45, [(1, [], .v (.c (.p (.sl (.int .i64)) w))), (2, [], .v (.c (.ptr 2 0))), (9, [], .v (.c (.p (.int .u32) ret27v)))], [(2, [], .box [.p (.int .i64) n.1, .p (.int .i64) n.2.1, .p (.sl (.pr (.int .i64) (.pr (.int .i64) (.int .i64)))) n.2.2.1, .p (.int .u32) n.2.2.2.1, .p (.int .u32) n.2.2.2.2])]⟩ : St)) (by kernel_rfl) ⟨trivial, trivial⟩ ?_
      refine awl_nil ?_
      refine thenQ_n ?_
      refine aw_seq ?_
      refine aw_seq ?_
      refine aw_region ?_
      refine awl_runp 3 [2, 9, 28, 29, 30] [2] (ob := (True ∧ True ∧ True ∧ True)) (st' := (⟨45, [(2, [], .v (.c (.ptr 2 0))), (9, [], .v (.c (.p (.int .u32) ret27v))), (28, [], .v (.c (.p (.sl (.int .i64)) w))), (29, [], .v (.c (.p (.int .i64) (w.length : Int)))), (30, [], .v (.c (.p (.int .i64) (0 : Int))))], [(2, [], .box [.p (.int .i64) n.1, .p (.int .i64) n.2.1, .p (.sl (.pr (.int .i64) (.pr (.int .i64) (.int .i64)))) n.2.2.1, .p (.int .u32) n.2.2.2.1, .p (.int .u32) n.2.2.2.2])]⟩ : St)) (by kernel_rfl) ⟨trivial, trivial, trivial, trivial⟩ ?_
      refine awl_nil ?_
      refine thenQ_n ?_
      refine withJoin (σ := Int) (fun s => (⟨45, [(2, [], .v (.c (.ptr 2 0))), (9, [], .v (.c (.p (.int .u32) s)))], [(2, [], .box [.p (.int .i64) n.1, .p (.int .i64) n.2.1, .p (.sl (.pr (.int .i64) (.pr (.int .i64) (.int .i64)))) n.2.2.1, .p (.int .u32) n.2.2.2.1, .p (.int .u32) n.2.2.2.2])]⟩ : St)) (fun s => VC20_k1 n K s) (fun setv h => ?_) (fun rest1 => ?_)
      · have h : VC20_k1 n K setv := h
        unfold VC20_k1 at h
        refine thenQ_n ?_
        refine aw_seq ?_
        refine awd_begin [] (by kernel_rfl) ?_
        refine awd_runp (by kernel_rfl) [0, 1, 2, 3, 4, 5, 6, 7, 8] [4, 5, 6] [] (ob := (True ∧ True ∧ True ∧ True ∧ True ∧ True ∧ True ∧ True ∧ True ∧ True)) (done' := [8, 7, 6, 5, 4, 3, 2, 1, 0]) (st' := (⟨45, [(4, [], .v (.c (.p (.int .u32) setv))), (5, [], .v (.c (.p .bool (!decide ((bAnd .u32 setv n.2.2.2.2) = (0 : Int)))))), (6, [], .v (.c (.p (.int .i64) (0 : Int))))], []⟩ : St)) (by kernel_rfl) ⟨trivial, trivial, trivial, trivial, trivial, trivial, trivial, trivial, trivial, trivial⟩ ?_
        refine awd_done (by kernel_rfl) ?_
        refine thenQ_n ?_
        refine aw_ret ?_
        exact retQ_r (σ := Int × Bool × Int) (R := (fun y => [toV1 (.int .u32) y.1, toV1 .bool y.2.1, toV1 (.int .i64) y.2.2])) (ob := (True ∧ True ∧ True ∧ True)) (setv, (!decide ((bAnd .u32 setv n.2.2.2.2) = (0 : Int))), (0 : Int)) (by kernel_rfl) ⟨trivial, trivial, trivial, trivial⟩ h
      · refine aw_block ?_
        refine aw_loop (σ := Int × Int) (fun s => (⟨45, [(2, [], .v (.c (.ptr 2 0))), (9, [], .v (.c (.p (.int .u32) s.1))), (28, [], .v (.c (.p (.sl (.int .i64)) w))), (29, [], .v (.c (.p (.int .i64) (w.length : Int)))), (30, [], .v (.c (.p (.int .i64) s.2)))], [(2, [], .box [.p (.int .i64) n.1, .p (.int .i64) n.2.1, .p (.sl (.pr (.int .i64) (.pr (.int .i64) (.int .i64)))) n.2.2.1, .p (.int .u32) n.2.2.2.1, .p (.int .u32) n.2.2.2.2])]⟩ : St)) (fun s X => VC20_l1 n w K s.1 s.2 X) (s0 := (ret27v, (0 : Int))) (fun s X1 h => ?_) h
        obtain ⟨setv, v30⟩ := s
        have h : VC20_l1 n w K setv v30 X1 := h
        unfold VC20_l1 at h
        refine aw_seq ?_
        refine aw_region ?_
        refine awl_runp 1 [2, 9, 28, 29, 30, 31] [2] (ob := (True ∧ True)) (st' := (⟨45, [(2, [], .v (.c (.ptr 2 0))), (9, [], .v (.c (.p (.int .u32) setv))), (28, [], .v (.c (.p (.sl (.int .i64)) w))), (29, [], .v (.c (.p (.int .i64) (w.length : Int)))), (30, [], .v (.c (.p (.int .i64) v30))), (31, [], .v (.c (.p .bool (decide (v30 < (w.length : Int))))))], [(2, [], .box [.p (.int .i64) n.1, .p (.int .i64) n.2.1, .p (.sl (.pr (.int .i64) (.pr (.int .i64) (.int .i64)))) n.2.2.1, .p (.int .u32) n.2.2.2.1, .p (.int .u32) n.2.2.2.2])]⟩ : St)) (by kernel_rfl) ⟨trivial, trivial⟩ ?_
        refine awl_nil ?_
        refine thenQ_n ?_
        refine aw_seq ?_
        refine aw_cond (b := (decide (v30 < (w.length : Int)))) (by kernel_rfl) (fun hb => ?_) (fun hb => ?_)
        · have h := h.1 hb
          refine aw_skip ?_
          refine thenQ_n ?_
          refine aw_seq ?_
          refine aw_block ?_
          refine aw_seq ?_
          refine aw_region ?_
          obtain ⟨o1, h⟩ := h
          refine awl_runp 3 [2, 9, 11, 28, 29, 30] [2] (ob := (inIdx v30 w.length ∧ True ∧ True ∧ True)) (st' := (⟨45, [(2, [], .v (.c (.ptr 2 0))), (9, [], .v (.c (.p (.int .u32) setv))), (11, [], .v (.c (.p (.int .i64) (w.getD (v30).toNat (0 : Int))))), (28, [], .v (.c (.p (.sl (.int .i64)) w))), (29, [], .v (.c (.p (.int .i64) (w.length : Int)))), (30, [], .v (.c (.p (.int .i64) v30)))], [(2, [], .box [.p (.int .i64) n.1, .p (.int .i64) n.2.1, .p (.sl (.pr (.int .i64) (.pr (.int .i64) (.int .i64)))) n.2.2.1, .p (.int .u32) n.2.2.2.1, .p (.int .u32) n.2.2.2.2])]⟩ : St)) (by kernel_rfl) ⟨o1, trivial, trivial, trivial⟩ ?_
          refine awl_nil ?_
          refine thenQ_n ?_
          refine aw_region ?_
          refine awl_runp 3 [2, 28, 29, 30, 34, 35, 36] [2] (ob := (True ∧ True ∧ True ∧ True)) (st' := (⟨45, [(2, [], .v (.c (.ptr 2 0))), (28, [], .v (.c (.p (.sl (.int .i64)) w))), (29, [], .v (.c (.p (.int .i64) (w.length : Int)))), (30, [], .v (.c (.p (.int .i64) v30))), (34, [], .v (.agg [.p (.int .i64) n.1, .p (.int .i64) n.2.1, .p (.sl (.pr (.int .i64) (.pr (.int .i64) (.int .i64)))) n.2.2.1, .p (.int .u32) n.2.2.2.1, .p (.int .u32) n.2.2.2.2])), (35, [], .v (.c (.p (.int .u32) setv))), (36, [], .v (.c (.p (.int .i64) (w.getD (v30).toNat (0 : Int)))))], [(2, [], .box [.p (.int .i64) n.1, .p (.int .i64) n.2.1, .p (.sl (.pr (.int .i64) (.pr (.int .i64) (.int .i64)))) n.2.2.1, .p (.int .u32) n.2.2.2.1, .p (.int .u32) n.2.2.2.2])]⟩ : St)) (by kernel_rfl) ⟨trivial, trivial, trivial, trivial⟩ ?_
          refine awl_callk (p := []) (l := [toV1 (.pr (.int .i64) (.pr (.int .i64) (.pr (.sl (.pr (.int .i64) (.pr (.int .i64) (.int .i64)))) (.pr (.int .u32) (.int .u32))))) n, toV1 (.int .u32) setv, toV1 (.int .i64) (w.getD (v30).toNat (0 : Int))]) (cl := []) false [.d (.pr (.int .i64) (.pr (.int .i64) (.pr (.sl (.pr (.int .i64) (.pr (.int .i64) (.int .i64)))) (.pr (.int .u32) (.int .u32))))), .d (.int .u32), .d (.int .i64)] [2, 28, 29, 30, 37] [2] (fun (ret37v : Int) => (InR (v30 + (1 : Int)) ∧ X1 (ret37v, (v30 + (1 : Int))))) (fun ret37v => [toV1 (.int .u32) ret37v]) (fun ret37v => (⟨45, [(2, [], .v (.c (.ptr 2 0))), (28, [], .v (.c (.p (.sl (.int .i64)) w))), (29, [], .v (.c (.p (.int .i64) (w.length : Int)))), (30, [], .v (.c (.p (.int .i64) v30))), (37, [], .v (.c (.p (.int .u32) ret37v)))], [(2, [], .box [.p (.int .i64) n.1, .p (.int .i64) n.2.1, .p (.sl (.pr (.int .i64) (.pr (.int .i64) (.int .i64)))) n.2.2.1, .p (.int .u32) n.2.2.2.1, .p (.int .u32) n.2.2.2.2])]⟩ : St)) (by kernel_rfl) rfl (by kernel_rfl) rfl (by kernel_rfl) Try.call46 (by kernel_rfl) (fun ret37v => by kernel_rfl) (fun e => by cases e) (fun hg => link46 n setv (w.getD (v30).toNat (0 : Int)) _ h) (fun hg => noF hg) (fun ret37v h => ?_)
          have h : (InR (v30 + (1 : Int)) ∧ X1 (ret37v, (v30 + (1 : Int)))) := h
          refine awl_runp 1 [2, 9, 28, 29, 30] [2] (ob := (True ∧ True)) (st' := (⟨45, [(2, [], .v (.c (.ptr 2 0))), (9, [], .v (.c (.p (.int .u32) ret37v))), (28, [], .v (.c (.p (.sl (.int .i64)) w))), (29, [], .v (.c (.p (.int .i64) (w.length : Int)))), (30, [], .v (.c (.p (.int .i64) v30)))], [(2, [], .box [.p (.int .i64) n.1, .p (.int .i64) n.2.1, .p (.sl (.pr (.int .i64) (.pr (.int .i64) (.int .i64)))) n.2.2.1, .p (.int .u32) n.2.2.2.1, .p (.int .u32) n.2.2.2.2])]⟩ : St)) (by kernel_rfl) ⟨trivial, trivial⟩ ?_
          refine awl_nil ?_
          refine blockQ_n ?_
          refine thenQ_n ?_
          refine aw_region ?_
          obtain ⟨o1, h⟩ := h
          refine awl_runp 2 [2, 9, 28, 29, 30] [2] (ob := (InR (v30 + (1 : Int)) ∧ True ∧ True)) (st' := (⟨45, [(2, [], .v (.c (.ptr 2 0))), (9, [], .v (.c (.p (.int .u32) ret37v))), (28, [], .v (.c (.p (.sl (.int .i64)) w))), (29, [], .v (.c (.p (.int .i64) (w.length : Int)))), (30, [], .v (.c (.p (.int .i64) (v30 + (1 : Int)))))], [(2, [], .box [.p (.int .i64) n.1, .p (.int .i64) n.2.1, .p (.sl (.pr (.int .i64) (.pr (.int .i64) (.int .i64)))) n.2.2.1, .p (.int .u32) n.2.2.2.1, .p (.int .u32) n.2.2.2.2])]⟩ : St)) (by kernel_rfl) ⟨o1, trivial, trivial⟩ ?_
          refine awl_nil ?_
          exact thenQ_n ⟨(ret37v, (v30 + (1 : Int))), rfl, h⟩
        · have h := h.2 hb
          refine aw_conv [.prune [2, 9] [2]] (st' := (⟨45, [(2, [], .v (.c (.ptr 2 0))), (9, [], .v (.c (.p (.int .u32) setv)))], [(2, [], .box [.p (.int .i64) n.1, .p (.int .i64) n.2.1, .p (.sl (.pr (.int .i64) (.pr (.int .i64) (.int .i64)))) n.2.2.1, .p (.int .u32) n.2.2.2.1, .p (.int .u32) n.2.2.2.2])]⟩ : St)) (by kernel_rfl) ?_
          refine aw_exit ?_
          refine thenQ_x ?_
          refine thenQ_x ?_
          refine blockQ_hit ?_
          exact rest1 setv h

-- coppicer/coppicerref.NetCheck
def VC22_k1 (n : (Int × (Int × ((List (Int × (Int × Int))) × (Int × Int))))) (K : Int → Prop) : Prop :=
  (0 ≤ (IntKind.wrap .u64 n.1) ∧ ((decide ((bShl .u32 (1 : Int) (IntKind.wrap .u64 n.1)) ≤ n.2.2.2.1)) = false → 0 ≤ (IntKind.wrap .u64 n.1)) ∧ ((((decide ((bShl .u32 (1 : Int) (IntKind.wrap .u64 n.1)) ≤ n.2.2.2.1)) || (decide ((bShl .u32 (1 : Int) (IntKind.wrap .u64 n.1)) ≤ n.2.2.2.2))) = true → K (4 : Int)) ∧ (((decide ((bShl .u32 (1 : Int) (IntKind.wrap .u64 n.1)) ≤ n.2.2.2.1)) || (decide ((bShl .u32 (1 : Int) (IntKind.wrap .u64 n.1)) ≤ n.2.2.2.2))) = false → K (0 : Int))))

def VC22_l1 (n : (Int × (Int × ((List (Int × (Int × Int))) × (Int × Int))))) (K : Int → Prop) (v32 : Int) (X1 : Int → Prop) : Prop :=
  (((decide (v32 < (n.2.2.1.length : Int))) = true → (inIdx v32 n.2.2.1.length ∧ ((((((((decide ((n.2.2.1.getD (v32).toNat ((0 : Int), ((0 : Int), (0 : Int)))).1 < (0 : Int))) || (decide (n.1 ≤ (n.2.2.1.getD (v32).toNat ((0 : Int), ((0 : Int), (0 : Int)))).1))) || (decide ((n.2.2.1.getD (v32).toNat ((0 : Int), ((0 : Int), (0 : Int)))).2.2 < (0 : Int)))) || (decide (n.1 ≤ (n.2.2.1.getD (v32).toNat ((0 : Int), ((0 : Int), (0 : Int)))).2.2))) || (decide ((n.2.2.1.getD (v32).toNat ((0 : Int), ((0 : Int), (0 : Int)))).2.1 < (-1 : Int)))) || (decide (n.2.1 ≤ (n.2.2.1.getD (v32).toNat ((0 : Int), ((0 : Int), (0 : Int)))).2.1))) = true → K (2 : Int)) ∧ (((((((decide ((n.2.2.1.getD (v32).toNat ((0 : Int), ((0 : Int), (0 : Int)))).1 < (0 : Int))) || (decide (n.1 ≤ (n.2.2.1.getD (v32).toNat ((0 : Int), ((0 : Int), (0 : Int)))).1))) || (decide ((n.2.2.1.getD (v32).toNat ((0 : Int), ((0 : Int), (0 : Int)))).2.2 < (0 : Int)))) || (decide (n.1 ≤ (n.2.2.1.getD (v32).toNat ((0 : Int), ((0 : Int), (0 : Int)))).2.2))) || (decide ((n.2.2.1.getD (v32).toNat ((0 : Int), ((0 : Int), (0 : Int)))).2.1 < (-1 : Int)))) || (decide (n.2.1 ≤ (n.2.2.1.getD (v32).toNat ((0 : Int), ((0 : Int), (0 : Int)))).2.1))) = false → (InR (v32 + (1 : Int)) ∧ X1 (v32 + (1 : Int))))))) ∧ ((decide (v32 < (n.2.2.1.length : Int))) = false → VC22_k1 n K))

def VC22 (n : (Int × (Int × ((List (Int × (Int × Int))) × (Int × Int))))) (K : Int → Prop) : Prop :=
  (((((((decide (n.1 < (1 : Int))) || (decide ((7 : Int) < n.1))) || (decide (n.2.1 < (1 : Int)))) || (decide ((3 : Int) < n.2.1))) || (decide ((60 : Int) < (n.2.2.1.length : Int)))) = true → K (1 : Int)) ∧ ((((((decide (n.1 < (1 : Int))) || (decide ((7 : Int) < n.1))) || (decide (n.2.1 < (1 : Int)))) || (decide ((3 : Int) < n.2.1))) || (decide ((60 : Int) < (n.2.2.1.length : Int)))) = false → Loop (σ := Int) (fun s X => VC22_l1 n K s X) (0 : Int)))

set_option maxHeartbeats 4000000 in
theorem link22 (n : (Int × (Int × ((List (Int × (Int × Int))) × (Int × Int))))) (K : Int → Prop) (h : VC22 n K) : ACalls Try.prog 22 [toV1 (.pr (.int .i64) (.pr (.int .i64) (.pr (.sl (.pr (.int .i64) (.pr (.int .i64) (.int .i64)))) (.pr (.int .u32) (.int .u32))))) n] (fun res => ∃ y, res = (fun y => [toV1 (.int .i64) y]) y ∧ K y) := by
  refine acalls_of_aw [(.int .i64)] [.t 2] Try.func22 rfl rfl rfl ?_
  unfold VC22 at h
  refine aw_seq ?_
  refine aw_region ?_
  refine awl_runp 2 [1] [1] (ob := (True ∧ True ∧ True)) (st' := (⟨87, [(1, [], .v (.c (.ptr 1 0)))], [(1, [], .box [.p (.int .i64) n.1, .p (.int .i64) n.2.1, .p (.sl (.pr (.int .i64) (.pr (.int .i64) (.int .i64)))) n.2.2.1, .p (.int .u32) n.2.2.2.1, .p (.int .u32) n.2.2.2.2])]⟩ : St)) (by kernel_rfl) ⟨trivial, trivial, trivial⟩ ?_
  refine awl_nil ?_
  refine thenQ_n ?_
  refine aw_seq ?_
  refine aw_seq ?_
  refine aw_region ?_
  refine awl_runp 24 [1, 28] [1] (ob := (True ∧ True ∧ True ∧ True ∧ ((decide (n.1 < (1 : Int))) = false → True) ∧ ((decide (n.1 < (1 : Int))) = false → True) ∧ ((decide (n.1 < (1 : Int))) = false → True) ∧ True ∧ True ∧ (((decide (n.1 < (1 : Int))) || (decide ((7 : Int) < n.1))) = false → True) ∧ (((decide (n.1 < (1 : Int))) || (decide ((7 : Int) < n.1))) = false → True) ∧ (((decide (n.1 < (1 : Int))) || (decide ((7 : Int) < n.1))) = false → True) ∧ True ∧ True ∧ ((((decide (n.1 < (1 : Int))) || (decide ((7 : Int) < n.1))) || (decide (n.2.1 < (1 : Int)))) = false → True) ∧ ((((decide (n.1 < (1 : Int))) || (decide ((7 : Int) < n.1))) || (decide (n.2.1 < (1 : Int)))) = false → True) ∧ ((((decide (n.1 < (1 : Int))) || (decide ((7 : Int) < n.1))) || (decide (n.2.1 < (1 : Int)))) = false → True) ∧ True ∧ True ∧ (((((decide (n.1 < (1 : Int))) || (decide ((7 : Int) < n.1))) || (decide (n.2.1 < (1 : Int)))) || (decide ((3 : Int) < n.2.1))) = false → True) ∧ (((((decide (n.1 < (1 : Int))) || (decide ((7 : Int) < n.1))) || (decide (n.2.1 < (1 : Int)))) || (decide ((3 : Int) < n.2.1))) = false → True) ∧ (((((decide (n.1 < (1 : Int))) || (decide ((7 : Int) < n.1))) || (decide (n.2.1 < (1 : Int)))) || (decide ((3 : Int) < n.2.1))) = false → True) ∧ (((((decide (n.1 < (1 : Int))) || (decide ((7 : Int) < n.1))) || (decide (n.2.1 < (1 : Int)))) || (decide ((3 : Int) < n.2.1))) = false → True) ∧ True ∧ True)) (st' := (⟨87, [(1, [], .v (.c (.ptr 1 0))), (28, [], .v (.c (.p .bool (((((decide (n.1 < (1 : Int))) || (decide ((7 : Int) < n.1))) || (decide (n.2.1 < (1 : Int)))) || (decide ((3 : Int) < n.2.1))) || (decide ((60 : Int) < (n.2.2.1.length : Int)))))))], [(1, [], .box [.p (.int .i64) n.1, .p (.int .i64) n.2.1, .p (.sl (.pr (.int .i64) (.pr (.int .i64) (.int .i64)))) n.2.2.1, .p (.int .u32) n.2.2.2.1, .p (.int .u32) n.2.2.2.2])]⟩ : St)) (by kernel_rfl) ⟨trivial, trivial, trivial, trivial, (fun _ => trivial), (fun _ => trivial), (fun _ => trivial), trivial, trivial, (fun _ => trivial), (fun _ => trivial), (fun _ => trivial), trivial, trivial, (fun _ => trivial), (fun _ => trivial), (fun _ => trivial), trivial, trivial, (fun _ => trivial), (fun _ => trivial), (fun _ => trivial), (fun _ => trivial), trivial, trivial⟩ ?_
  refine awl_nil ?_
  refine thenQ_n ?_
  refine aw_cond (b := (((((decide (n.1 < (1 : Int))) || (decide ((7 : Int) < n.1))) || (decide (n.2.1 < (1 : Int)))) || (decide ((3 : Int) < n.2.1))) || (decide ((60 : Int) < (n.2.2.1.length : Int))))) (by kernel_rfl) (fun hb => ?_) (fun hb => ?_)
  · have h := h.1 hb
    refine aw_seq ?_
    refine aw_region ?_
    refine awl_runp 1 [2] [] (ob := (True ∧ True)) (st' := (⟨87, [(2, [], .v (.c (.p (.int .i64) (1 : Int))))], []⟩ : St)) (by kernel_rfl) ⟨trivial, trivial⟩ ?_
    refine awl_nil ?_
    refine thenQ_n ?_
    refine aw_ret ?_
    refine thenQ_r ?_
    exact retQ_r (σ := Int) (R := (fun y => [toV1 (.int .i64) y])) (ob := (True ∧ True)) (1 : Int) (by kernel_rfl) ⟨trivial, trivial⟩ h
  · have h := h.2 hb
    refine aw_skip ?_
    refine thenQ_n ?_
    refine aw_seq ?_
    refine aw_seq ?_
    refine aw_region ?_
    refine awl_runp 4 [1, 30, 31, 32] [1] (ob := (True ∧ True ∧ True ∧ True ∧ True)) (st' := (⟨87, [(1, [], .v (.c (.ptr 1 0))), (30, [], .v (.c (.p (.sl (.pr (.int .i64) (.pr (.int .i64) (.int .i64)))) n.2.2.1))), (31, [], .v (.c (.p (.int .i64) (n.2.2.1.length : Int)))), (32, [], .v (.c (.p (.int .i64) (0 : Int))))], [(1, [], .box [.p (.int .i64) n.1, .p (.int .i64) n.2.1, .p (.sl (.pr (.int .i64) (.pr (.int .i64) (.int .i64)))) n.2.2.1, .p (.int .u32) n.2.2.2.1, .p (.int .u32) n.2.2.2.2])]⟩ : St)) (by kernel_rfl) ⟨trivial, trivial, trivial, trivial, trivial⟩ ?_
    refine awl_nil ?_
    refine thenQ_n ?_
    refine withJoin (σ := Unit) (fun s => (⟨87, [(1, [], .v (.c (.ptr 1 0)))], [(1, [], .box [.p (.int .i64) n.1, .p (.int .i64) n.2.1, .p (.sl (.pr (.int .i64) (.pr (.int .i64) (.int .i64)))) n.2.2.1, .p (.int .u32) n.2.2.2.1, .p (.int .u32) n.2.2.2.2])]⟩ : St)) (fun s => VC22_k1 n K) (fun s h => ?_) (fun rest1 => ?_)
    · have h : VC22_k1 n K := h
      unfold VC22_k1 at h
      refine thenQ_n ?_
      refine aw_seq ?_
      refine aw_seq ?_
      refine aw_region ?_
      obtain ⟨o1, o2, h⟩ := h
      refine awl_runp 16 [86] [] (ob := (True ∧ True ∧ True ∧ True ∧ True ∧ 0 ≤ (IntKind.wrap .u64 n.1) ∧ True ∧ True ∧ ((decide ((bShl .u32 (1 : Int) (IntKind.wrap .u64 n.1)) ≤ n.2.2.2.1)) = false → True) ∧ ((decide ((bShl .u32 (1 : Int) (IntKind.wrap .u64 n.1)) ≤ n.2.2.2.1)) = false → True) ∧ ((decide ((bShl .u32 (1 : Int) (IntKind.wrap .u64 n.1)) ≤ n.2.2.2.1)) = false → True) ∧ ((decide ((bShl .u32 (1 : Int) (IntKind.wrap .u64 n.1)) ≤ n.2.2.2.1)) = false → True) ∧ ((decide ((bShl .u32 (1 : Int) (IntKind.wrap .u64 n.1)) ≤ n.2.2.2.1)) = false → True) ∧ ((decide ((bShl .u32 (1 : Int) (IntKind.wrap .u64 n.1)) ≤ n.2.2.2.1)) = false → 0 ≤ (IntKind.wrap .u64 n.1)) ∧ ((decide ((bShl .u32 (1 : Int) (IntKind.wrap .u64 n.1)) ≤ n.2.2.2.1)) = false → True) ∧ True ∧ True)) (st' := (⟨87, [(86, [], .v (.c (.p .bool ((decide ((bShl .u32 (1 : Int) (IntKind.wrap .u64 n.1)) ≤ n.2.2.2.1)) || (decide ((bShl .u32 (1 : Int) (IntKind.wrap .u64 n.1)) ≤ n.2.2.2.2))))))], []⟩ : St)) (by kernel_rfl) ⟨trivial, trivial, trivial, trivial, trivial, o1, trivial, trivial, (fun _ => trivial), (fun _ => trivial), (fun _ => trivial), (fun _ => trivial), (fun _ => trivial), o2, (fun _ => trivial), trivial, trivial⟩ ?_
      refine awl_nil ?_
      refine thenQ_n ?_
      refine aw_cond (b := ((decide ((bShl .u32 (1 : Int) (IntKind.wrap .u64 n.1)) ≤ n.2.2.2.1)) || (decide ((bShl .u32 (1 : Int) (IntKind.wrap .u64 n.1)) ≤ n.2.2.2.2)))) (by kernel_rfl) (fun hb => ?_) (fun hb => ?_)
      · have h := h.1 hb
        refine aw_seq ?_
        refine aw_region ?_
        refine awl_runp 1 [2] [] (ob := (True ∧ True)) (st' := (⟨87, [(2, [], .v (.c (.p (.int .i64) (4 : Int))))], []⟩ : St)) (by kernel_rfl) ⟨trivial, trivial⟩ ?_
        refine awl_nil ?_
        refine thenQ_n ?_
        refine aw_ret ?_
        refine thenQ_r ?_
        exact retQ_r (σ := Int) (R := (fun y => [toV1 (.int .i64) y])) (ob := (True ∧ True)) (4 : Int) (by kernel_rfl) ⟨trivial, trivial⟩ h
      · have h := h.2 hb
        refine aw_skip ?_
        refine thenQ_n ?_
        refine aw_seq ?_
        refine aw_region ?_
        refine awl_runp 1 [2] [] (ob := (True ∧ True)) (st' := (⟨87, [(2, [], .v (.c (.p (.int .i64) (0 : Int))))], []⟩ : St)) (by kernel_rfl) ⟨trivial, trivial⟩ ?_
        refine awl_nil ?_
        refine thenQ_n ?_
        refine aw_ret ?_
        exact retQ_r (σ := Int) (R := (fun y => [toV1 (.int .i64) y])) (ob := (True ∧ True)) (0 : Int) (by kernel_rfl) ⟨trivial, trivial⟩ h
    · refine aw_block ?_
      refine aw_loop (σ := Int) (fun s => (⟨87, [(1, [], .v (.c (.ptr 1 0))), (30, [], .v (.c (.p (.sl (.pr (.int .i64) (.pr (.int .i64) (.int .i64)))) n.2.2.1))), (31, [], .v (.c (.p (.int .i64) (n.2.2.1.length : Int)))), (32, [], .v (.c (.p (.int .i64) s)))], [(1, [], .box [.p (.int .i64) n.1, .p (.int .i64) n.2.1, .p (.sl (.pr (.int .i64) (.pr (.int .i64) (.int .i64)))) n.2.2.1, .p (.int .u32) n.2.2.2.1, .p (.int .u32) n.2.2.2.2])]⟩ : St)) (fun s X => VC22_l1 n K s X) (s0 := (0 : Int)) (fun v32 X1 h => ?_) h
      have h : VC22_l1 n K v32 X1 := h
      unfold VC22_l1 at h
      refine aw_seq ?_
      refine aw_region ?_
      refine awl_runp 1 [1, 30, 31, 32, 33] [1] (ob := (True ∧ True)) (st' := (⟨87, [(1, [], .v (.c (.ptr 1 0))), (30, [], .v (.c (.p (.sl (.pr (.int .i64) (.pr (.int .i64) (.int .i64)))) n.2.2.1))), (31, [], .v (.c (.p (.int .i64) (n.2.2.1.length : Int)))), (32, [], .v (.c (.p (.int .i64) v32))), (33, [], .v (.c (.p .bool (decide (v32 < (n.2.2.1.length : Int))))))], [(1, [], .box [.p (.int .i64) n.1, .p (.int .i64) n.2.1, .p (.sl (.pr (.int .i64) (.pr (.int .i64) (.int .i64)))) n.2.2.1, .p (.int .u32) n.2.2.2.1, .p (.int .u32) n.2.2.2.2])]⟩ : St)) (by kernel_rfl) ⟨trivial, trivial⟩ ?_
      refine awl_nil ?_
      refine thenQ_n ?_
      refine aw_seq ?_
      refine aw_cond (b := (decide (v32 < (n.2.2.1.length : Int)))) (by kernel_rfl) (fun hb => ?_) (fun hb => ?_)
      · have h := h.1 hb
        refine aw_skip ?_
        refine thenQ_n ?_
        refine aw_seq ?_
        refine aw_block ?_
        refine aw_seq ?_
        refine aw_region ?_
        obtain ⟨o1, h⟩ := h
        refine awl_runp 4 [1, 4, 30, 31, 32] [1, 4] (ob := (inIdx v32 n.2.2.1.length ∧ True ∧ True ∧ True ∧ True)) (st' := (⟨87, [(1, [], .v (.c (.ptr 1 0))), (4, [], .v (.c (.ptr 4 0))), (30, [], .v (.c (.p (.sl (.pr (.int .i64) (.pr (.int .i64) (.int .i64)))) n.2.2.1))), (31, [], .v (.c (.p (.int .i64) (n.2.2.1.length : Int)))), (32, [], .v (.c (.p (.int .i64) v32)))], [(1, [], .box [.p (.int .i64) n.1, .p (.int .i64) n.2.1, .p (.sl (.pr (.int .i64) (.pr (.int .i64) (.int .i64)))) n.2.2.1, .p (.int .u32) n.2.2.2.1, .p (.int .u32) n.2.2.2.2]), (4, [], .box [.p (.int .i64) ((n.2.2.1.getD (v32).toNat ((0 : Int), ((0 : Int), (0 : Int)))).1), .p (.int .i64) ((n.2.2.1.getD (v32).toNat ((0 : Int), ((0 : Int), (0 : Int)))).2.1), .p (.int .i64) ((n.2.2.1.getD (v32).toNat ((0 : Int), ((0 : Int), (0 : Int)))).2.2)])]⟩ : St)) (by kernel_rfl) ⟨o1, trivial, trivial, trivial, trivial⟩ ?_
        refine awl_nil ?_
        refine thenQ_n ?_
        refine aw_seq ?_
        refine aw_region ?_
        refine awl_runp 34 [1, 30, 31, 32, 69] [1] (ob := (True ∧ True ∧ True ∧ True ∧ ((decide ((n.2.2.1.getD (v32).toNat ((0 : Int), ((0 : Int), (0 : Int)))).1 < (0 : Int))) = false → True) ∧ ((decide ((n.2.2.1.getD (v32).toNat ((0 : Int), ((0 : Int), (0 : Int)))).1 < (0 : Int))) = false → True) ∧ ((decide ((n.2.2.1.getD (v32).toNat ((0 : Int), ((0 : Int), (0 : Int)))).1 < (0 : Int))) = false → True) ∧ ((decide ((n.2.2.1.getD (v32).toNat ((0 : Int), ((0 : Int), (0 : Int)))).1 < (0 : Int))) = false → True) ∧ ((decide ((n.2.2.1.getD (v32).toNat ((0 : Int), ((0 : Int), (0 : Int)))).1 < (0 : Int))) = false → True) ∧ True ∧ True ∧ (((decide ((n.2.2.1.getD (v32).toNat ((0 : Int), ((0 : Int), (0 : Int)))).1 < (0 : Int))) || (decide (n.1 ≤ (n.2.2.1.getD (v32).toNat ((0 : Int), ((0 : Int), (0 : Int)))).1))) = false → True) ∧ (((decide ((n.2.2.1.getD (v32).toNat ((0 : Int), ((0 : Int), (0 : Int)))).1 < (0 : Int))) || (decide (n.1 ≤ (n.2.2.1.getD (v32).toNat ((0 : Int), ((0 : Int), (0 : Int)))).1))) = false → True) ∧ (((decide ((n.2.2.1.getD (v32).toNat ((0 : Int), ((0 : Int), (0 : Int)))).1 < (0 : Int))) || (decide (n.1 ≤ (n.2.2.1.getD (v32).toNat ((0 : Int), ((0 : Int), (0 : Int)))).1))) = false → True) ∧ True ∧ True ∧ ((((decide ((n.2.2.1.getD (v32).toNat ((0 : Int), ((0 : Int), (0 : Int)))).1 < (0 : Int))) || (decide (n.1 ≤ (n.2.2.1.getD (v32).toNat ((0 : Int), ((0 : Int), (0 : Int)))).1))) || (decide ((n.2.2.1.getD (v32).toNat ((0 : Int), ((0 : Int), (0 : Int)))).2.2 < (0 : Int)))) = false → True) ∧ ((((decide ((n.2.2.1.getD (v32).toNat ((0 : Int), ((0 : Int), (0 : Int)))).1 < (0 : Int))) || (decide (n.1 ≤ (n.2.2.1.getD (v32).toNat ((0 : Int), ((0 : Int), (0 : Int)))).1))) || (decide ((n.2.2.1.getD (v32).toNat ((0 : Int), ((0 : Int), (0 : Int)))).2.2 < (0 : Int)))) = false → True) ∧ ((((decide ((n.2.2.1.getD (v32).toNat ((0 : Int), ((0 : Int), (0 : Int)))).1 < (0 : Int))) || (decide (n.1 ≤ (n.2.2.1.getD (v32).toNat ((0 : Int), ((0 : Int), (0 : Int)))).1))) || (decide ((n.2.2.1.getD (v32).toNat ((0 : Int), ((0 : Int), (0 : Int)))).2.2 < (0 : Int)))) = false → True) ∧ ((((decide ((n.2.2.1.getD (v32).toNat ((0 : Int), ((0 : Int), (0 : Int)))).1 < (0 : Int))) || (decide (n.1 ≤ (n.2.2.1.getD (v32).toNat ((0 : Int), ((0 : Int), (0 : Int)))).1))) || (decide ((n.2.2.1.getD (v32).toNat ((0 : Int), ((0 : Int), (0 : Int)))).2.2 < (0 : Int)))) = false → True) ∧ ((((decide ((n.2.2.1.getD (v32).toNat ((0 : Int), ((0 : Int), (0 : Int)))).1 < (0 : Int))) || (decide (n.1 ≤ (n.2.2.1.getD (v32).toNat ((0 : Int), ((0 : Int), (0 : Int)))).1))) || (decide ((n.2.2.1.getD (v32).toNat ((0 : Int), ((0 : Int), (0 : Int)))).2.2 < (0 : Int)))) = false → True) ∧ True ∧ True ∧ (((((decide ((n.2.2.1.getD (v32).toNat ((0 : Int), ((0 : Int), (0 : Int)))).1 < (0 : Int))) || (decide (n.1 ≤ (n.2.2.1.getD (v32).toNat ((0 : Int), ((0 : Int), (0 : Int)))).1))) || (decide ((n.2.2.1.getD (v32).toNat ((0 : Int), ((0 : Int), (0 : Int)))).2.2 < (0 : Int)))) || (decide (n.1 ≤ (n.2.2.1.getD (v32).toNat ((0 : Int), ((0 : Int), (0 : Int)))).2.2))) = false → True) ∧ (((((decide ((n.2.2.1.getD (v32).toNat ((0 : Int), ((0 : Int), (0 : Int)))).1 < (0 : Int))) || (decide (n.1 ≤ (n.2.2.1.getD (v32).toNat ((0 : Int), ((0 : Int), (0 : Int)))).1))) || (decide ((n.2.2.1.getD (v32).toNat ((0 : Int), ((0 : Int), (0 : Int)))).2.2 < (0 : Int)))) || (decide (n.1 ≤ (n.2.2.1.getD (v32).toNat ((0 : Int), ((0 : Int), (0 : Int)))).2.2))) = false → True) ∧ (((((decide ((n.2.2.1.getD (v32).toNat ((0 : Int), ((0 : Int), (0 : Int)))).1 < (0 : Int))) || (decide (n.1 ≤ (n.2.2.1.getD (v32).toNat ((0 : Int), ((0 : Int), (0 : Int)))).1))) || (decide ((n.2.2.1.getD (v32).toNat ((0 : Int), ((0 : Int), (0 : Int)))).2.2 < (0 : Int)))) || (decide (n.1 ≤ (n.2.2.1.getD (v32).toNat ((0 : Int), ((0 : Int), (0 : Int)))).2.2))) = false → True) ∧ True ∧ True ∧ ((((((decide ((n.2.2.1.getD (v32).toNat ((0 : Int), ((0 : Int), (0 : Int)))).1 < (0 : Int))) || (decide (n.1 ≤ (n.2.2.1.getD (v32).toNat ((0 : Int), ((0 : Int), (0 : Int)))).1))) || (decide ((n.2.2.1.getD (v32).toNat ((0 : Int), ((0 : Int), (0 : Int)))).2.2 < (0 : Int)))) || (decide (n.1 ≤ (n.2.2.1.getD (v32).toNat ((0 : Int), ((0 : Int), (0 : Int)))).2.2))) || (decide ((n.2.2.1.getD (v32).toNat ((0 : Int), ((0 : Int), (0 : Int)))).2.1 < (-1 : Int)))) = false → True) ∧ ((((((decide ((n.2.2.1.getD (v32).toNat ((0 : Int), ((0 : Int), (0 : Int)))).1 < (0 : Int))) || (decide (n.1 ≤ (n.2.2.1.getD (v32).toNat ((0 : Int), ((0 : Int), (0 : Int)))).1))) || (decide ((n.2.2.1.getD (v32).toNat ((0 : Int), ((0 : Int), (0 : Int)))).2.2 < (0 : Int)))) || (decide (n.1 ≤ (n.2.2.1.getD (v32).toNat ((0 : Int), ((0 : Int), (0 : Int)))).2.2))) || (decide ((n.2.2.1.getD (v32).toNat ((0 : Int), ((0 : Int), (0 : Int)))).2.1 < (-1 : Int)))) = false → True) ∧ ((((((decide ((n.2.2.1.getD (v32).toNat ((0 : Int), ((0 : Int), (0 : Int)))).1 < (0 : Int))) || (decide (n.1 ≤ (n.2.2.1.getD (v32).toNat ((0 : Int), ((0 : Int), (0 : Int)))).1))) || (decide ((n.2.2.1.getD (v32).toNat ((0 : Int), ((0 : Int), (0 : Int)))).2.2 < (0 : Int)))) || (decide (n.1 ≤ (n.2.2.1.getD (v32).toNat ((0 : Int), ((0 : Int), (0 : Int)))).2.2))) || (decide ((n.2.2.1.getD (v32).toNat ((0 : Int), ((0 : Int), (0 : Int)))).2.1 < (-1 : Int)))) = false → True) ∧ ((((((decide ((n.2.2.1.getD (v32).toNat ((0 : Int), ((0 : Int), (0 : Int)))).1 < (0 : Int))) || (decide (n.1 ≤ (n.2.2.1.getD (v32).toNat ((0 : Int), ((0 : Int), (0 : Int)))).1))) || (decide ((n.2.2.1.getD (v32).toNat ((0 : Int), ((0 : Int), (0 : Int)))).2.2 < (0 : Int)))) || (decide (n.1 ≤ (n.2.2.1.getD (v32).toNat ((0 : Int), ((0 : Int), (0 : Int)))).2.2))) || (decide ((n.2.2.1.getD (v32).toNat ((0 : Int), ((0 : Int), (0 : Int)))).2.1 < (-1 : Int)))) = false → True) ∧ ((((((decide ((n.2.2.1.getD (v32).toNat ((0 : Int), ((0 : Int), (0 : Int)))).1 < (0 : Int))) || (decide (n.1 ≤ (n.2.2.1.getD (v32).toNat ((0 : Int), ((0 : Int), (0 : Int)))).1))) || (decide ((n.2.2.1.getD (v32).toNat ((0 : Int), ((0 : Int), (0 : Int)))).2.2 < (0 : Int)))) || (decide (n.1 ≤ (n.2.2.1.getD (v32).toNat ((0 : Int), ((0 : Int), (0 : Int)))).2.2))) || (decide ((n.2.2.1.getD (v32).toNat ((0 : Int), ((0 : Int), (0 : Int)))).2.1 < (-1 : Int)))) = false → True) ∧ True ∧ True)) (st' := (⟨87, [(1, [], .v (.c (.ptr 1 0))), (30, [], .v (.c (.p (.sl (.pr (.int .i64) (.pr (.int .i64) (.int .i64)))) n.2.2.1))), (31, [], .v (.c (.p (.int .i64) (n.2.2.1.length : Int)))), (32, [], .v (.c (.p (.int .i64) v32))), (69, [], .v (.c (.p .bool ((((((decide ((n.2.2.1.getD (v32).toNat ((0 : Int), ((0 : Int), (0 : Int)))).1 < (0 : Int))) || (decide (n.1 ≤ (n.2.2.1.getD (v32).toNat ((0 : Int), ((0 : Int), (0 : Int)))).1))) || (decide ((n.2.2.1.getD (v32).toNat ((0 : Int), ((0 : Int), (0 : Int)))).2.2 < (0 : Int)))) || (decide (n.1 ≤ (n.2.2.1.getD (v32).toNat ((0 : Int), ((0 : Int), (0 : Int)))).2.2))) || (decide ((n.2.2.1.getD (v32).toNat ((0 : Int), ((0 : Int), (0 : Int)))).2.1 < (-1 : Int)))) || (decide (n.2.1 ≤ (n.2.2.1.getD (v32).toNat ((0 : Int), ((0 : Int), (0 : Int)))).2.1))))))], [(1, [], .box [.p (.int .i64) n.1, .p (.int .i64) n.2.1, .p (.sl (.pr (.int .i64) (.pr (.int .i64) (.int .i64)))) n.2.2.1, .p (.int .u32) n.2.2.2.1, .p (.int .u32) n.2.2.2.2])]⟩ : St)) (by kernel_rfl) ⟨trivial, trivial, trivial, trivial, (fun _ => trivial), (fun _ => trivial), (fun _ => trivial), (fun _ => trivial), (fun _ => trivial), trivial, trivial, (fun _ => trivial), (fun _ => trivial), (fun _ => trivial), trivial, trivial, (fun _ => trivial), (fun _ => trivial), (fun _ => trivial), (fun _ => trivial), (fun _ => trivial), trivial, trivial, (fun _ => trivial), (fun _ => trivial), (fun _ => trivial), trivial, trivial, (fun _ => trivial), (fun _ => trivial), (fun _ => trivial), (fun _ => trivial), (fun _ => trivial), trivial, trivial⟩ ?_
        refine awl_nil ?_
        refine thenQ_n ?_
        refine aw_cond (b := ((((((decide ((n.2.2.1.getD (v32).toNat ((0 : Int), ((0 : Int), (0 : Int)))).1 < (0 : Int))) || (decide (n.1 ≤ (n.2.2.1.getD (v32).toNat ((0 : Int), ((0 : Int), (0 : Int)))).1))) || (decide ((n.2.2.1.getD (v32).toNat ((0 : Int), ((0 : Int), (0 : Int)))).2.2 < (0 : Int)))) || (decide (n.1 ≤ (n.2.2.1.getD (v32).toNat ((0 : Int), ((0 : Int), (0 : Int)))).2.2))) || (decide ((n.2.2.1.getD (v32).toNat ((0 : Int), ((0 : Int), (0 : Int)))).2.1 < (-1 : Int)))) || (decide (n.2.1 ≤ (n.2.2.1.getD (v32).toNat ((0 : Int), ((0 : Int), (0 : Int)))).2.1)))) (by kernel_rfl) (fun hb => ?_) (fun hb => ?_)
        · have h := h.1 hb
          refine aw_seq ?_
          refine aw_region ?_
          refine awl_runp 1 [2] [] (ob := (True ∧ True)) (st' := (⟨87, [(2, [], .v (.c (.p (.int .i64) (2 : Int))))], []⟩ : St)) (by kernel_rfl) ⟨trivial, trivial⟩ ?_
          refine awl_nil ?_
          refine thenQ_n ?_
          refine aw_ret ?_
          refine blockQ_r ?_
          refine thenQ_r ?_
          refine thenQ_r ?_
          refine blockQ_r ?_
          refine thenQ_r ?_
          exact retQ_r (σ := Int) (R := (fun y => [toV1 (.int .i64) y])) (ob := (True ∧ True)) (2 : Int) (by kernel_rfl) ⟨trivial, trivial⟩ h
        · have h := h.2 hb
          refine aw_skip ?_
          refine blockQ_n ?_
          refine thenQ_n ?_
          refine aw_region ?_
          obtain ⟨o1, h⟩ := h
          refine awl_runp 2 [1, 30, 31, 32] [1] (ob := (InR (v32 + (1 : Int)) ∧ True ∧ True)) (st' := (⟨87, [(1, [], .v (.c (.ptr 1 0))), (30, [], .v (.c (.p (.sl (.pr (.int .i64) (.pr (.int .i64) (.int .i64)))) n.2.2.1))), (31, [], .v (.c (.p (.int .i64) (n.2.2.1.length : Int)))), (32, [], .v (.c (.p (.int .i64) (v32 + (1 : Int)))))], [(1, [], .box [.p (.int .i64) n.1, .p (.int .i64) n.2.1, .p (.sl (.pr (.int .i64) (.pr (.int .i64) (.int .i64)))) n.2.2.1, .p (.int .u32) n.2.2.2.1, .p (.int .u32) n.2.2.2.2])]⟩ : St)) (by kernel_rfl) ⟨o1, trivial, trivial⟩ ?_
          refine awl_nil ?_
          exact thenQ_n ⟨(v32 + (1 : Int)), rfl, h⟩
      · have h := h.2 hb
        refine aw_conv [.prune [1] [1]] (st' := (⟨87, [(1, [], .v (.c (.ptr 1 0)))], [(1, [], .box [.p (.int .i64) n.1, .p (.int .i64) n.2.1, .p (.sl (.pr (.int .i64) (.pr (.int .i64) (.int .i64)))) n.2.2.1, .p (.int .u32) n.2.2.2.1, .p (.int .u32) n.2.2.2.2])]⟩ : St)) (by kernel_rfl) ?_
        refine aw_exit ?_
        refine thenQ_x ?_
        refine thenQ_x ?_
        refine blockQ_hit ?_
        exact rest1 () h

-- coppicer/coppicerkeep.netted
def VC21 (n : (Int × (Int × ((List (Int × (Int × Int))) × (Int × Int))))) (w : (List Int)) (K : Bool → Prop) : Prop :=
  VC22 n (fun (ret6v : Int) => gcall (α := Int) (decide (ret6v = (0 : Int))) (VC17 n.2.1 w) (0 : Int) (fun (ret12v : Int) => K ((decide (ret6v = (0 : Int))) && (decide (ret12v = (0 : Int))))))

set_option maxHeartbeats 4000000 in
theorem link21 (n : (Int × (Int × ((List (Int × (Int × Int))) × (Int × Int))))) (w : (List Int)) (K : Bool → Prop) (h : VC21 n w K) : ACalls Try.prog 21 [toV1 (.pr (.int .i64) (.pr (.int .i64) (.pr (.sl (.pr (.int .i64) (.pr (.int .i64) (.int .i64)))) (.pr (.int .u32) (.int .u32))))) n, toV1 (.sl (.int .i64)) w] (fun res => ∃ y, res = (fun y => [toV1 .bool y]) y ∧ K y) := by
  refine acalls_of_aw [.bool] [.t 4] Try.func21 rfl rfl rfl ?_
  unfold VC21 at h
  refine aw_seq ?_
  refine aw_region ?_
  refine awl_runp 2 [1, 2] [2] (ob := (True ∧ True ∧ True)) (st' := (⟨15, [(1, [], .v (.c (.p (.sl (.int .i64)) w))), (2, [], .v (.c (.ptr 2 0)))], [(2, [], .box [.p (.int .i64) n.1, .p (.int .i64) n.2.1, .p (.sl (.pr (.int .i64) (.pr (.int .i64) (.int .i64)))) n.2.2.1, .p (.int .u32) n.2.2.2.1, .p (.int .u32) n.2.2.2.2])]⟩ : St)) (by kernel_rfl) ⟨trivial, trivial, trivial⟩ ?_
  refine awl_nil ?_
  refine thenQ_n ?_
  refine aw_seq ?_
  refine aw_region ?_
  refine awl_runp 1 [1, 2, 5] [2] (ob := (True ∧ True)) (st' := (⟨15, [(1, [], .v (.c (.p (.sl (.int .i64)) w))), (2, [], .v (.c (.ptr 2 0))), (5, [], .v (.agg [.p (.int .i64) n.1, .p (.int .i64) n.2.1, .p (.sl (.pr (.int .i64) (.pr (.int .i64) (.int .i64)))) n.2.2.1, .p (.int .u32) n.2.2.2.1, .p (.int .u32) n.2.2.2.2]))], [(2, [], .box [.p (.int .i64) n.1, .p (.int .i64) n.2.1, .p (.sl (.pr (.int .i64) (.pr (.int .i64) (.int .i64)))) n.2.2.1, .p (.int .u32) n.2.2.2.1, .p (.int .u32) n.2.2.2.2])]⟩ : St)) (by kernel_rfl) ⟨trivial, trivial⟩ ?_
  refine awl_callk (p := []) (l := [toV1 (.pr (.int .i64) (.pr (.int .i64) (.pr (.sl (.pr (.int .i64) (.pr (.int .i64) (.int .i64)))) (.pr (.int .u32) (.int .u32))))) n]) (cl := []) false [.d (.pr (.int .i64) (.pr (.int .i64) (.pr (.sl (.pr (.int .i64) (.pr (.int .i64) (.int .i64)))) (.pr (.int .u32) (.int .u32)))))] [1, 2, 6] [2] (fun (ret6v : Int) => gcall (α := Int) (decide (ret6v = (0 : Int))) (VC17 n.2.1 w) (0 : Int) (fun (ret12v : Int) => K ((decide (ret6v = (0 : Int))) && (decide (ret12v = (0 : Int)))))) (fun ret6v => [toV1 (.int .i64) ret6v]) (fun ret6v => (⟨15, [(1, [], .v (.c (.p (.sl (.int .i64)) w))), (2, [], .v (.c (.ptr 2 0))), (6, [], .v (.c (.p (.int .i64) ret6v)))], [(2, [], .box [.p (.int .i64) n.1, .p (.int .i64) n.2.1, .p (.sl (.pr (.int .i64) (.pr (.int .i64) (.int .i64)))) n.2.2.1, .p (.int .u32) n.2.2.2.1, .p (.int .u32) n.2.2.2.2])]⟩ : St)) (by kernel_rfl) rfl (by kernel_rfl) rfl (by kernel_rfl) Try.call22 (by kernel_rfl) (fun ret6v => by kernel_rfl) (fun e => by cases e) (fun hg => link22 n _ h) (fun hg => noF hg) (fun ret6v h => ?_)
  have h : gcall (α := Int) (decide (ret6v = (0 : Int))) (VC17 n.2.1 w) (0 : Int) (fun (ret12v : Int) => K ((decide (ret6v = (0 : Int))) && (decide (ret12v = (0 : Int))))) := h
  refine awl_runp 5 [8, 10, 11] [] (ob := (True ∧ True ∧ ((decide (ret6v = (0 : Int))) = true → True) ∧ ((decide (ret6v = (0 : Int))) = true → True) ∧ ((decide (ret6v = (0 : Int))) = true → True) ∧ True)) (st' := (⟨15, [(8, [], .v (.c (.p .bool (decide (ret6v = (0 : Int)))))), (10, [(8, true)], .v (.c (.p (.int .i64) n.2.1))), (11, [(8, true)], .v (.c (.p (.sl (.int .i64)) w)))], []⟩ : St)) (by kernel_rfl) ⟨trivial, trivial, (fun _ => trivial), (fun _ => trivial), (fun _ => trivial), trivial⟩ ?_
  refine awl_callk (p := [(8, true)]) (l := [toV1 (.int .i64) n.2.1, toV1 (.sl (.int .i64)) w]) (cl := []) false [.d (.int .i64), .d (.sl (.int .i64))] [8, 12] [] (fun (ret12v : Int) => K ((decide (ret6v = (0 : Int))) && (decide (ret12v = (0 : Int))))) (fun ret12v => [toV1 (.int .i64) ret12v]) (fun ret12v => (⟨15, [(8, [], .v (.c (.p .bool (decide (ret6v = (0 : Int)))))), (12, [(8, true)], .v (.c (.p (.int .i64) ret12v)))], []⟩ : St)) (by kernel_rfl) rfl (by kernel_rfl) rfl (by kernel_rfl) Try.call17 (by kernel_rfl) (fun ret12v => by kernel_rfl) (fun e => by cases e) (fun hg => link17 n.2.1 w _ (by have := gcall_T h (show (decide (ret6v = (0 : Int))) = true from hg); exact this)) (fun hg => ⟨(0 : Int), by have := gcall_F h (show (decide (ret6v = (0 : Int))) = false from hg); exact this⟩) (fun ret12v h => ?_)
  have h : K ((decide (ret6v = (0 : Int))) && (decide (ret12v = (0 : Int)))) := h
  refine awl_runp 3 [4] [] (ob := (((decide (ret6v = (0 : Int))) = true → True) ∧ True ∧ True ∧ True)) (st' := (⟨15, [(4, [], .v (.c (.p .bool ((decide (ret6v = (0 : Int))) && (decide (ret12v = (0 : Int)))))))], []⟩ : St)) (by kernel_rfl) ⟨(fun _ => trivial), trivial, trivial, trivial⟩ ?_
  refine awl_nil ?_
  refine thenQ_n ?_
  refine aw_ret ?_
  exact retQ_r (σ := Bool) (R := (fun y => [toV1 .bool y])) (ob := (True ∧ True)) ((decide (ret6v = (0 : Int))) && (decide (ret12v = (0 : Int)))) (by kernel_rfl) ⟨trivial, trivial⟩ h

-- coppicer/coppicerkeep.NetMore
def VC5 (n : (Int × (Int × ((List (Int × (Int × Int))) × (Int × Int))))) (a : (Int × (Int × Int))) (w : (List Int)) (K : Bool → Prop) : Prop :=
  VC20 n w (fun (ret17v : Int × Bool × Int) => VC21 n w (fun (ret23v : Bool) => (((!ret23v) = true → K (!decide (ret17v.2.2 = (0 : Int)))) ∧ ((!ret23v) = false → (roomN (([] : List (Int × (Int × Int))).length + n.2.2.1.length) ∧ (roomN ((([] : List (Int × (Int × Int))) ++ n.2.2.1).length + [a].length) ∧ VC20 (n.1, (n.2.1, (((([] : List (Int × (Int × Int))) ++ n.2.2.1) ++ [a]), n.2.2.2))) w (fun (ret39v : Int × Bool × Int) => VC22 (n.1, (n.2.1, (((([] : List (Int × (Int × Int))) ++ n.2.2.1) ++ [a]), n.2.2.2))) (fun (ret44v : Int) => (((!decide (ret44v = (0 : Int))) = true → K ((decide (ret17v.2.2 = (0 : Int))) && (!decide (ret39v.2.2 = (0 : Int))))) ∧ ((!decide (ret44v = (0 : Int))) = false → K ((((decide (ret17v.2.2 = (0 : Int))) && (decide (ret39v.2.2 = (0 : Int)))) && (decide ((bAndNot .u32 ret17v.1 ret39v.1) = (0 : Int)))) && ((decide ((0 : Int) < (w.length : Int))) || (decide ((bAndNot .u32 n.2.2.2.1 ret17v.1) = (0 : Int)))))))))))))))

set_option maxHeartbeats 4000000 in
theorem link5 (n : (Int × (Int × ((List (Int × (Int × Int))) × (Int × Int))))) (a : (Int × (Int × Int))) (w : (List Int)) (K : Bool → Prop) (h : VC5 n a w K) : ACalls Try.prog 5 [toV1 (.pr (.int .i64) (.pr (.int .i64) (.pr (.sl (.pr (.int .i64) (.pr (.int .i64) (.int .i64)))) (.pr (.int .u32) (.int .u32))))) n, toV1 (.pr (.int .i64) (.pr (.int .i64) (.int .i64))) a, toV1 (.sl (.int .i64)) w] (fun res => ∃ y, res = (fun y => [toV1 .bool y]) y ∧ K y) := by
  refine acalls_of_aw [.bool] [.t 6] Try.func5 rfl rfl rfl ?_
  unfold VC5 at h
  refine aw_seq ?_
  refine aw_region ?_
  refine awl_runp 3 [2, 3, 4] [3, 4] (ob := (True ∧ True ∧ True ∧ True)) (st' := (⟨76, [(2, [], .v (.c (.p (.sl (.int .i64)) w))), (3, [], .v (.c (.ptr 3 0))), (4, [], .v (.c (.ptr 4 0)))], [(3, [], .box [.p (.int .i64) n.1, .p (.int .i64) n.2.1, .p (.sl (.pr (.int .i64) (.pr (.int .i64) (.int .i64)))) n.2.2.1, .p (.int .u32) n.2.2.2.1, .p (.int .u32) n.2.2.2.2]), (4, [], .box [.p (.int .i64) a.1, .p (.int .i64) a.2.1, .p (.int .i64) a.2.2])]⟩ : St)) (by kernel_rfl) ⟨trivial, trivial, trivial, trivial⟩ ?_
  refine awl_nil ?_
  refine thenQ_n ?_
  refine aw_seq ?_
  refine aw_region ?_
  refine awl_runp 2 [2, 3, 4, 15, 16] [3, 4] (ob := (True ∧ True ∧ True)) (st' := (⟨76, [(2, [], .v (.c (.p (.sl (.int .i64)) w))), (3, [], .v (.c (.ptr 3 0))), (4, [], .v (.c (.ptr 4 0))), (15, [], .v (.agg [.p (.int .i64) n.1, .p (.int .i64) n.2.1, .p (.sl (.pr (.int .i64) (.pr (.int .i64) (.int .i64)))) n.2.2.1, .p (.int .u32) n.2.2.2.1, .p (.int .u32) n.2.2.2.2])), (16, [], .v (.c (.p (.sl (.int .i64)) w)))], [(3, [], .box [.p (.int .i64) n.1, .p (.int .i64) n.2.1, .p (.sl (.pr (.int .i64) (.pr (.int .i64) (.int .i64)))) n.2.2.1, .p (.int .u32) n.2.2.2.1, .p (.int .u32) n.2.2.2.2]), (4, [], .box [.p (.int .i64) a.1, .p (.int .i64) a.2.1, .p (.int .i64) a.2.2])]⟩ : St)) (by kernel_rfl) ⟨trivial, trivial, trivial⟩ ?_
  refine awl_callk (p := []) (l := [toV1 (.pr (.int .i64) (.pr (.int .i64) (.pr (.sl (.pr (.int .i64) (.pr (.int .i64) (.int .i64)))) (.pr (.int .u32) (.int .u32))))) n, toV1 (.sl (.int .i64)) w]) (cl := []) false [.d (.pr (.int .i64) (.pr (.int .i64) (.pr (.sl (.pr (.int .i64) (.pr (.int .i64) (.int .i64)))) (.pr (.int .u32) (.int .u32))))), .d (.sl (.int .i64))] [2, 3, 4, 17] [3, 4] (fun (ret17v : Int × Bool × Int) => VC21 n w (fun (ret23v : Bool) => (((!ret23v) = true → K (!decide (ret17v.2.2 = (0 : Int)))) ∧ ((!ret23v) = false → (roomN (([] : List (Int × (Int × Int))).length + n.2.2.1.length) ∧ (roomN ((([] : List (Int × (Int × Int))) ++ n.2.2.1).length + [a].length) ∧ VC20 (n.1, (n.2.1, (((([] : List (Int × (Int × Int))) ++ n.2.2.1) ++ [a]), n.2.2.2))) w (fun (ret39v : Int × Bool × Int) => VC22 (n.1, (n.2.1, (((([] : List (Int × (Int × Int))) ++ n.2.2.1) ++ [a]), n.2.2.2))) (fun (ret44v : Int) => (((!decide (ret44v = (0 : Int))) = true → K ((decide (ret17v.2.2 = (0 : Int))) && (!decide (ret39v.2.2 = (0 : Int))))) ∧ ((!decide (ret44v = (0 : Int))) = false → K ((((decide (ret17v.2.2 = (0 : Int))) && (decide (ret39v.2.2 = (0 : Int)))) && (decide ((bAndNot .u32 ret17v.1 ret39v.1) = (0 : Int)))) && ((decide ((0 : Int) < (w.length : Int))) || (decide ((bAndNot .u32 n.2.2.2.1 ret17v.1) = (0 : Int))))))))))))))) (fun ret17v => [toV1 (.int .u32) ret17v.1, toV1 .bool ret17v.2.1, toV1 (.int .i64) ret17v.2.2]) (fun ret17v => (⟨76, [(2, [], .v (.c (.p (.sl (.int .i64)) w))), (3, [], .v (.c (.ptr 3 0))), (4, [], .v (.c (.ptr 4 0))), (17, [], .tup [.c (.p (.int .u32) ret17v.1), .c (.p .bool ret17v.2.1), .c (.p (.int .i64) ret17v.2.2)])], [(3, [], .box [.p (.int .i64) n.1, .p (.int .i64) n.2.1, .p (.sl (.pr (.int .i64) (.pr (.int .i64) (.int .i64)))) n.2.2.1, .p (.int .u32) n.2.2.2.1, .p (.int .u32) n.2.2.2.2]), (4, [], .box [.p (.int .i64) a.1, .p (.int .i64) a.2.1, .p (.int .i64) a.2.2])]⟩ : St)) (by kernel_rfl) rfl (by kernel_rfl) rfl (by kernel_rfl) Try.call20 (by kernel_rfl) (fun ret17v => by kernel_rfl) (fun e => by cases e) (fun hg => link20 n w _ h) (fun hg => noF hg) (fun ret17v h => ?_)
  have h : VC21 n w (fun (ret23v : Bool) => (((!ret23v) = true → K (!decide (ret17v.2.2 = (0 : Int)))) ∧ ((!ret23v) = false → (roomN (([] : List (Int × (Int × Int))).length + n.2.2.1.length) ∧ (roomN ((([] : List (Int × (Int × Int))) ++ n.2.2.1).length + [a].length) ∧ VC20 (n.1, (n.2.1, (((([] : List (Int × (Int × Int))) ++ n.2.2.1) ++ [a]), n.2.2.2))) w (fun (ret39v : Int × Bool × Int) => VC22 (n.1, (n.2.1, (((([] : List (Int × (Int × Int))) ++ n.2.2.1) ++ [a]), n.2.2.2))) (fun (ret44v : Int) => (((!decide (ret44v = (0 : Int))) = true → K ((decide (ret17v.2.2 = (0 : Int))) && (!decide (ret39v.2.2 = (0 : Int))))) ∧ ((!decide (ret44v = (0 : Int))) = false → K ((((decide (ret17v.2.2 = (0 : Int))) && (decide (ret39v.2.2 = (0 : Int)))) && (decide ((bAndNot .u32 ret17v.1 ret39v.1) = (0 : Int)))) && ((decide ((0 : Int) < (w.length : Int))) || (decide ((bAndNot .u32 n.2.2.2.1 ret17v.1) = (0 : Int)))))))))))))) := h
  refine awl_runp 7 [2, 3, 4, 7, 9] [3, 4] (ob := (True ∧ True ∧ True ∧ True ∧ True ∧ True ∧ True ∧ True)) (st' := (⟨76, [(2, [], .v (.c (.p (.sl (.int .i64)) w))), (3, [], .v (.c (.ptr 3 0))), (4, [], .v (.c (.ptr 4 0))), (7, [], .v (.c (.p (.int .u32) ret17v.1))), (9, [], .v (.c (.p (.int .i64) ret17v.2.2)))], [(3, [], .box [.p (.int .i64) n.1, .p (.int .i64) n.2.1, .p (.sl (.pr (.int .i64) (.pr (.int .i64) (.int .i64)))) n.2.2.1, .p (.int .u32) n.2.2.2.1, .p (.int .u32) n.2.2.2.2]), (4, [], .box [.p (.int .i64) a.1, .p (.int .i64) a.2.1, .p (.int .i64) a.2.2])]⟩ : St)) (by kernel_rfl) ⟨trivial, trivial, trivial, trivial, trivial, trivial, trivial, trivial⟩ ?_
  refine awl_nil ?_
  refine thenQ_n ?_
  refine aw_seq ?_
  refine aw_seq ?_
  refine aw_region ?_
  refine awl_runp 2 [2, 3, 4, 7, 9, 21, 22] [3, 4] (ob := (True ∧ True ∧ True)) (st' := (⟨76, [(2, [], .v (.c (.p (.sl (.int .i64)) w))), (3, [], .v (.c (.ptr 3 0))), (4, [], .v (.c (.ptr 4 0))), (7, [], .v (.c (.p (.int .u32) ret17v.1))), (9, [], .v (.c (.p (.int .i64) ret17v.2.2))), (21, [], .v (.agg [.p (.int .i64) n.1, .p (.int .i64) n.2.1, .p (.sl (.pr (.int .i64) (.pr (.int .i64) (.int .i64)))) n.2.2.1, .p (.int .u32) n.2.2.2.1, .p (.int .u32) n.2.2.2.2])), (22, [], .v (.c (.p (.sl (.int .i64)) w)))], [(3, [], .box [.p (.int .i64) n.1, .p (.int .i64) n.2.1, .p (.sl (.pr (.int .i64) (.pr (.int .i64) (.int .i64)))) n.2.2.1, .p (.int .u32) n.2.2.2.1, .p (.int .u32) n.2.2.2.2]), (4, [], .box [.p (.int .i64) a.1, .p (.int .i64) a.2.1, .p (.int .i64) a.2.2])]⟩ : St)) (by kernel_rfl) ⟨trivial, trivial, trivial⟩ ?_
  refine awl_callk (p := []) (l := [toV1 (.pr (.int .i64) (.pr (.int .i64) (.pr (.sl (.pr (.int .i64) (.pr (.int .i64) (.int .i64)))) (.pr (.int .u32) (.int .u32))))) n, toV1 (.sl (.int .i64)) w]) (cl := []) false [.d (.pr (.int .i64) (.pr (.int .i64) (.pr (.sl (.pr (.int .i64) (.pr (.int .i64) (.int .i64)))) (.pr (.int .u32) (.int .u32))))), .d (.sl (.int .i64))] [2, 3, 4, 7, 9, 23] [3, 4] (fun (ret23v : Bool) => (((!ret23v) = true → K (!decide (ret17v.2.2 = (0 : Int)))) ∧ ((!ret23v) = false → (roomN (([] : List (Int × (Int × Int))).length + n.2.2.1.length) ∧ (roomN ((([] : List (Int × (Int × Int))) ++ n.2.2.1).length + [a].length) ∧ VC20 (n.1, (n.2.1, (((([] : List (Int × (Int × Int))) ++ n.2.2.1) ++ [a]), n.2.2.2))) w (fun (ret39v : Int × Bool × Int) => VC22 (n.1, (n.2.1, (((([] : List (Int × (Int × Int))) ++ n.2.2.1) ++ [a]), n.2.2.2))) (fun (ret44v : Int) => (((!decide (ret44v = (0 : Int))) = true → K ((decide (ret17v.2.2 = (0 : Int))) && (!decide (ret39v.2.2 = (0 : Int))))) ∧ ((!decide (ret44v = (0 : Int))) = false → K ((((decide (ret17v.2.2 = (0 : Int))) && (decide (ret39v.2.2 = (0 : Int)))) && (decide ((bAndNot .u32 ret17v.1 ret39v.1) = (0 : Int)))) && ((decide ((0 : Int) < (w.length : Int))) || (decide ((bAndNot .u32 n.2.2.2.1 ret17v.1) = (0 : Int)))))))))))))) (fun ret23v => [toV1 .bool ret23v]) (fun ret23v => (⟨76, [(2, [], .v (.c (.p (.sl (.int .i64)) w))), (3, [], .v (.c (.ptr 3 0))), (4, [], .v (.c (.ptr 4 0))), (7, [], .v (.c (.p (.int .u32) ret17v.1))), (9, [], .v (.c (.p (.int .i64) ret17v.2.2))), (23, [], .v (.c (.p .bool ret23v)))], [(3, [], .box [.p (.int .i64) n.1, .p (.int .i64) n.2.1, .p (.sl (.pr (.int .i64) (.pr (.int .i64) (.int .i64)))) n.2.2.1, .p (.int .u32) n.2.2.2.1, .p (.int .u32) n.2.2.2.2]), (4, [], .box [.p (.int .i64) a.1, .p (.int .i64) a.2.1, .p (.int .i64) a.2.2])]⟩ : St)) (by kernel_rfl) rfl (by kernel_rfl) rfl (by kernel_rfl) Try.call21 (by kernel_rfl) (fun ret23v => by kernel_rfl) (fun e => by cases e) (fun hg => link21 n w _ h) (fun hg => noF hg) (fun ret23v h => ?_)
  have h : (((!ret23v) = true → K (!decide (ret17v.2.2 = (0 : Int)))) ∧ ((!ret23v) = false → (roomN (([] : List (Int × (Int × Int))).length + n.2.2.1.length) ∧ (roomN ((([] : List (Int × (Int × Int))) ++ n.2.2.1).length + [a].length) ∧ VC20 (n.1, (n.2.1, (((([] : List (Int × (Int × Int))) ++ n.2.2.1) ++ [a]), n.2.2.2))) w (fun (ret39v : Int × Bool × Int) => VC22 (n.1, (n.2.1, (((([] : List (Int × (Int × Int))) ++ n.2.2.1) ++ [a]), n.2.2.2))) (fun (ret44v : Int) => (((!decide (ret44v = (0 : Int))) = true → K ((decide (ret17v.2.2 = (0 : Int))) && (!decide (ret39v.2.2 = (0 : Int))))) ∧ ((!decide (ret44v = (0 : Int))) = false → K ((((decide (ret17v.2.2 = (0 : Int))) && (decide (ret39v.2.2 = (0 : Int)))) && (decide ((bAndNot .u32 ret17v.1 ret39v.1) = (0 : Int)))) && ((decide ((0 : Int) < (w.length : Int))) || (decide ((bAndNot .u32 n.2.2.2.1 ret17v.1) = (0 : Int))))))))))))) := h
  refine awl_runp 1 [2, 3, 4, 7, 9, 24] [3, 4] (ob := (True ∧ True)) (st' := (⟨76, [(2, [], .v (.c (.p (.sl (.int .i64)) w))), (3, [], .v (.c (.ptr 3 0))), (4, [], .v (.c (.ptr 4 0))), (7, [], .v (.c (.p (.int .u32) ret17v.1))), (9, [], .v (.c (.p (.int .i64) ret17v.2.2))), (24, [], .v (.c (.p .bool (!ret23v))))], [(3, [], .box [.p (.int .i64) n.1, .p (.int .i64) n.2.1, .p (.sl (.pr (.int .i64) (.pr (.int .i64) (.int .i64)))) n.2.2.1, .p (.int .u32) n.2.2.2.1, .p (.int .u32) n.2.2.2.2]), (4, [], .box [.p (.int .i64) a.1, .p (.int .i64) a.2.1, .p (.int .i64) a.2.2])]⟩ : St)) (by kernel_rfl) ⟨trivial, trivial⟩ ?_
  refine awl_nil ?_
  refine thenQ_n ?_
  refine aw_cond (b := (!ret23v)) (by kernel_rfl) (fun hb => ?_) (fun hb => ?_)
  · have h := h.1 hb
    refine aw_seq ?_
    refine aw_region ?_
    refine awl_runp 3 [6] [] (ob := (True ∧ True ∧ True ∧ True)) (st' := (⟨76, [(6, [], .v (.c (.p .bool (!decide (ret17v.2.2 = (0 : Int))))))], []⟩ : St)) (by kernel_rfl) ⟨trivial, trivial, trivial, trivial⟩ ?_
    refine awl_nil ?_
    refine thenQ_n ?_
    refine aw_ret ?_
    refine thenQ_r ?_
    exact retQ_r (σ := Bool) (R := (fun y => [toV1 .bool y])) (ob := (True ∧ True)) (!decide (ret17v.2.2 = (0 : Int))) (by kernel_rfl) ⟨trivial, trivial⟩ h
  · have h := h.2 hb
    refine aw_skip ?_
    refine thenQ_n ?_
    refine aw_seq ?_
    refine aw_region ?_
    refine awl_runp 3 [2, 3, 4, 7, 9, 10] [3, 4, 10] (ob := (True ∧ True ∧ True ∧ True)) (st' := (⟨76, [(2, [], .v (.c (.p (.sl (.int .i64)) w))), (3, [], .v (.c (.ptr 3 0))), (4, [], .v (.c (.ptr 4 0))), (7, [], .v (.c (.p (.int .u32) ret17v.1))), (9, [], .v (.c (.p (.int .i64) ret17v.2.2))), (10, [], .v (.c (.ptr 10 0)))], [(3, [], .box [.p (.int .i64) n.1, .p (.int .i64) n.2.1, .p (.sl (.pr (.int .i64) (.pr (.int .i64) (.int .i64)))) n.2.2.1, .p (.int .u32) n.2.2.2.1, .p (.int .u32) n.2.2.2.2]), (4, [], .box [.p (.int .i64) a.1, .p (.int .i64) a.2.1, .p (.int .i64) a.2.2]), (10, [], .box [.p (.int .i64) n.1, .p (.int .i64) n.2.1, .p (.sl (.pr (.int .i64) (.pr (.int .i64) (.int .i64)))) n.2.2.1, .p (.int .u32) n.2.2.2.1, .p (.int .u32) n.2.2.2.2])]⟩ : St)) (by kernel_rfl) ⟨trivial, trivial, trivial, trivial⟩ ?_
    refine awl_nil ?_
    refine thenQ_n ?_
    refine aw_seq ?_
    refine awd_begin [10, 28, 31] (by kernel_rfl) ?_
    refine awd_runp (by kernel_rfl) [1, 2, 4] [2, 3, 7, 9, 10, 30, 32] [3, 10] (ob := (True ∧ True ∧ True ∧ True)) (done' := [4, 2, 1]) (st' := (⟨76, [(2, [], .v (.c (.p (.sl (.int .i64)) w))), (3, [], .v (.c (.ptr 3 0))), (7, [], .v (.c (.p (.int .u32) ret17v.1))), (9, [], .v (.c (.p (.int .i64) ret17v.2.2))), (10, [], .v (.c (.ptr 10 0))), (30, [], .v (.c (.p (.sl (.pr (.int .i64) (.pr (.int .i64) (.int .i64)))) n.2.2.1))), (32, [], .v (.agg [.p (.int .i64) a.1, .p (.int .i64) a.2.1, .p (.int .i64) a.2.2]))], [(3, [], .box [.p (.int .i64) n.1, .p (.int .i64) n.2.1, .p (.sl (.pr (.int .i64) (.pr (.int .i64) (.int .i64)))) n.2.2.1, .p (.int .u32) n.2.2.2.1, .p (.int .u32) n.2.2.2.2]), (10, [], .box [.p (.int .i64) n.1, .p (.int .i64) n.2.1, .p (.sl (.pr (.int .i64) (.pr (.int .i64) (.int .i64)))) n.2.2.1, .p (.int .u32) n.2.2.2.1, .p (.int .u32) n.2.2.2.2])]⟩ : St)) (by kernel_rfl) ⟨trivial, trivial, trivial, trivial⟩ ?_
    refine awd_two (i := 0) (j := 5) (by kernel_rfl) ?_ ?_
    · have h := h
      refine adop_stepp [2, 3, 7, 9, 10, 28, 30, 32] [3, 10, 28] (ob := True) (st' := (⟨76, [(2, [], .v (.c (.p (.sl (.int .i64)) w))), (3, [], .v (.c (.ptr 3 0))), (7, [], .v (.c (.p (.int .u32) ret17v.1))), (9, [], .v (.c (.p (.int .i64) ret17v.2.2))), (10, [], .v (.c (.ptr 10 0))), (28, [], .v (.c (.own 28))), (30, [], .v (.c (.p (.sl (.pr (.int .i64) (.pr (.int .i64) (.int .i64)))) n.2.2.1))), (32, [], .v (.agg [.p (.int .i64) a.1, .p (.int .i64) a.2.1, .p (.int .i64) a.2.2]))], [(3, [], .box [.p (.int .i64) n.1, .p (.int .i64) n.2.1, .p (.sl (.pr (.int .i64) (.pr (.int .i64) (.int .i64)))) n.2.2.1, .p (.int .u32) n.2.2.2.1, .p (.int .u32) n.2.2.2.2]), (10, [], .box [.p (.int .i64) n.1, .p (.int .i64) n.2.1, .p (.sl (.pr (.int .i64) (.pr (.int .i64) (.int .i64)))) n.2.2.1, .p (.int .u32) n.2.2.2.1, .p (.int .u32) n.2.2.2.2]), (28, [], .arr 41 (.pr (.int .i64) (.pr (.int .i64) (.int .i64))) ([] : List (Int × (Int × Int))))]⟩ : St)) rfl (by kernel_rfl) trivial ?_
      refine awd_two (i := 3) (j := 5) (by kernel_rfl) ?_ ?_
      · have h := h
        obtain ⟨o1, h⟩ := h
        refine adop_stepp [2, 3, 7, 9, 10, 31, 32] [3, 10, 31] (ob := roomN (([] : List (Int × (Int × Int))).length + n.2.2.1.length)) (st' := (⟨76, [(2, [], .v (.c (.p (.sl (.int .i64)) w))), (3, [], .v (.c (.ptr 3 0))), (7, [], .v (.c (.p (.int .u32) ret17v.1))), (9, [], .v (.c (.p (.int .i64) ret17v.2.2))), (10, [], .v (.c (.ptr 10 0))), (31, [], .v (.c (.own 31))), (32, [], .v (.agg [.p (.int .i64) a.1, .p (.int .i64) a.2.1, .p (.int .i64) a.2.2]))], [(3, [], .box [.p (.int .i64) n.1, .p (.int .i64) n.2.1, .p (.sl (.pr (.int .i64) (.pr (.int .i64) (.int .i64)))) n.2.2.1, .p (.int .u32) n.2.2.2.1, .p (.int .u32) n.2.2.2.2]), (10, [], .box [.p (.int .i64) n.1, .p (.int .i64) n.2.1, .p (.sl (.pr (.int .i64) (.pr (.int .i64) (.int .i64)))) n.2.2.1, .p (.int .u32) n.2.2.2.1, .p (.int .u32) n.2.2.2.2]), (31, [], .arr 41 (.pr (.int .i64) (.pr (.int .i64) (.int .i64))) (([] : List (Int × (Int × Int))) ++ n.2.2.1))]⟩ : St)) rfl (by kernel_rfl) o1 ?_
        refine awd_one (i := 5) (by kernel_rfl) ?_
        refine adop_stepp [2, 3, 7, 9, 10, 31, 33] [3, 10, 31, 33] (ob := True) (st' := (⟨76, [(2, [], .v (.c (.p (.sl (.int .i64)) w))), (3, [], .v (.c (.ptr 3 0))), (7, [], .v (.c (.p (.int .u32) ret17v.1))), (9, [], .v (.c (.p (.int .i64) ret17v.2.2))), (10, [], .v (.c (.ptr 10 0))), (31, [], .v (.c (.own 31))), (33, [], .v (.c (.own 33)))], [(3, [], .box [.p (.int .i64) n.1, .p (.int .i64) n.2.1, .p (.sl (.pr (.int .i64) (.pr (.int .i64) (.int .i64)))) n.2.2.1, .p (.int .u32) n.2.2.2.1, .p (.int .u32) n.2.2.2.2]), (10, [], .box [.p (.int .i64) n.1, .p (.int .i64) n.2.1, .p (.sl (.pr (.int .i64) (.pr (.int .i64) (.int .i64)))) n.2.2.1, .p (.int .u32) n.2.2.2.1, .p (.int .u32) n.2.2.2.2]), (31, [], .arr 41 (.pr (.int .i64) (.pr (.int .i64) (.int .i64))) (([] : List (Int × (Int × Int))) ++ n.2.2.1)), (33, [], .arr 41 (.pr (.int .i64) (.pr (.int .i64) (.int .i64))) [a])]⟩ : St)) rfl (by kernel_rfl) trivial ?_
        refine awd_one (i := 6) (by kernel_rfl) ?_
        obtain ⟨o1, h⟩ := h
        refine adop_stepp [2, 3, 7, 9, 10, 34] [3, 10, 34] (ob := roomN ((([] : List (Int × (Int × Int))) ++ n.2.2.1).length + [a].length)) (st' := (⟨76, [(2, [], .v (.c (.p (.sl (.int .i64)) w))), (3, [], .v (.c (.ptr 3 0))), (7, [], .v (.c (.p (.int .u32) ret17v.1))), (9, [], .v (.c (.p (.int .i64) ret17v.2.2))), (10, [], .v (.c (.ptr 10 0))), (34, [], .v (.c (.own 34)))], [(3, [], .box [.p (.int .i64) n.1, .p (.int .i64) n.2.1, .p (.sl (.pr (.int .i64) (.pr (.int .i64) (.int .i64)))) n.2.2.1, .p (.int .u32) n.2.2.2.1, .p (.int .u32) n.2.2.2.2]), (10, [], .box [.p (.int .i64) n.1, .p (.int .i64) n.2.1, .p (.sl (.pr (.int .i64) (.pr (.int .i64) (.int .i64)))) n.2.2.1, .p (.int .u32) n.2.2.2.1, .p (.int .u32) n.2.2.2.2]), (34, [], .arr 41 (.pr (.int .i64) (.pr (.int .i64) (.int .i64))) ((([] : List (Int × (Int × Int))) ++ n.2.2.1) ++ [a]))]⟩ : St)) rfl (by kernel_rfl) o1 ?_
        refine awd_runp (by kernel_rfl) [7] [2, 3, 7, 9, 10, 34, 35] [3, 10, 34] (ob := (True ∧ True)) (done' := [7, 6, 5, 3, 0, 4, 2, 1]) (st' := (⟨76, [(2, [], .v (.c (.p (.sl (.int .i64)) w))), (3, [], .v (.c (.ptr 3 0))), (7, [], .v (.c (.p (.int .u32) ret17v.1))), (9, [], .v (.c (.p (.int .i64) ret17v.2.2))), (10, [], .v (.c (.ptr 10 0))), (34, [], .v (.c (.own 34))), (35, [], .v (.c (.ptr 10 2)))], [(3, [], .box [.p (.int .i64) n.1, .p (.int .i64) n.2.1, .p (.sl (.pr (.int .i64) (.pr (.int .i64) (.int .i64)))) n.2.2.1, .p (.int .u32) n.2.2.2.1, .p (.int .u32) n.2.2.2.2]), (10, [], .box [.p (.int .i64) n.1, .p (.int .i64) n.2.1, .p (.sl (.pr (.int .i64) (.pr (.int .i64) (.int .i64)))) n.2.2.1, .p (.int .u32) n.2.2.2.1, .p (.int .u32) n.2.2.2.2]), (34, [], .arr 41 (.pr (.int .i64) (.pr (.int .i64) (.int .i64))) ((([] : List (Int × (Int × Int))) ++ n.2.2.1) ++ [a]))]⟩ : St)) (by kernel_rfl) ⟨trivial, trivial⟩ ?_
        refine awd_one (i := 8) (by kernel_rfl) ?_
        refine adop_stepp [2, 3, 7, 9, 10] [3, 10, 34] (ob := True) (st' := (⟨76, [(2, [], .v (.c (.p (.sl (.int .i64)) w))), (3, [], .v (.c (.ptr 3 0))), (7, [], .v (.c (.p (.int .u32) ret17v.1))), (9, [], .v (.c (.p (.int .i64) ret17v.2.2))), (10, [], .v (.c (.ptr 10 0)))], [(3, [], .box [.p (.int .i64) n.1, .p (.int .i64) n.2.1, .p (.sl (.pr (.int .i64) (.pr (.int .i64) (.int .i64)))) n.2.2.1, .p (.int .u32) n.2.2.2.1, .p (.int .u32) n.2.2.2.2]), (10, [], .box [.p (.int .i64) n.1, .p (.int .i64) n.2.1, .own 34, .p (.int .u32) n.2.2.2.1, .p (.int .u32) n.2.2.2.2]), (34, [], .arr 41 (.pr (.int .i64) (.pr (.int .i64) (.int .i64))) ((([] : List (Int × (Int × Int))) ++ n.2.2.1) ++ [a]))]⟩ : St)) rfl (by kernel_rfl) trivial ?_
        refine awd_done (by kernel_rfl) ?_
        refine thenQ_n ?_
        refine aw_seq ?_
        refine aw_region ?_
        refine awl_runp 2 [2, 3, 7, 9, 10, 37, 38] [3, 10, 34] (ob := (True ∧ True ∧ True)) (st' := (⟨76, [(2, [], .v (.c (.p (.sl (.int .i64)) w))), (3, [], .v (.c (.ptr 3 0))), (7, [], .v (.c (.p (.int .u32) ret17v.1))), (9, [], .v (.c (.p (.int .i64) ret17v.2.2))), (10, [], .v (.c (.ptr 10 0))), (37, [], .v (.agg [.p (.int .i64) n.1, .p (.int .i64) n.2.1, .own 34, .p (.int .u32) n.2.2.2.1, .p (.int .u32) n.2.2.2.2])), (38, [], .v (.c (.p (.sl (.int .i64)) w)))], [(3, [], .box [.p (.int .i64) n.1, .p (.int .i64) n.2.1, .p (.sl (.pr (.int .i64) (.pr (.int .i64) (.int .i64)))) n.2.2.1, .p (.int .u32) n.2.2.2.1, .p (.int .u32) n.2.2.2.2]), (10, [], .box [.p (.int .i64) n.1, .p (.int .i64) n.2.1, .own 34, .p (.int .u32) n.2.2.2.1, .p (.int .u32) n.2.2.2.2]), (34, [], .arr 41 (.pr (.int .i64) (.pr (.int .i64) (.int .i64))) ((([] : List (Int × (Int × Int))) ++ n.2.2.1) ++ [a]))]⟩ : St)) (by kernel_rfl) ⟨trivial, trivial, trivial⟩ ?_
        refine awl_callk (p := []) (l := [toV1 (.pr (.int .i64) (.pr (.int .i64) (.pr (.sl (.pr (.int .i64) (.pr (.int .i64) (.int .i64)))) (.pr (.int .u32) (.int .u32))))) (n.1, (n.2.1, (((([] : List (Int × (Int × Int))) ++ n.2.2.1) ++ [a]), n.2.2.2))), toV1 (.sl (.int .i64)) w]) (cl := []) true [.d (.pr (.int .i64) (.pr (.int .i64) (.pr (.sl (.pr (.int .i64) (.pr (.int .i64) (.int .i64)))) (.pr (.int .u32) (.int .u32))))), .d (.sl (.int .i64))] [2, 3, 7, 9, 10, 39] [3, 10, 34] (fun (ret39v : Int × Bool × Int) => VC22 (n.1, (n.2.1, (((([] : List (Int × (Int × Int))) ++ n.2.2.1) ++ [a]), n.2.2.2))) (fun (ret44v : Int) => (((!decide (ret44v = (0 : Int))) = true → K ((decide (ret17v.2.2 = (0 : Int))) && (!decide (ret39v.2.2 = (0 : Int))))) ∧ ((!decide (ret44v = (0 : Int))) = false → K ((((decide (ret17v.2.2 = (0 : Int))) && (decide (ret39v.2.2 = (0 : Int)))) && (decide ((bAndNot .u32 ret17v.1 ret39v.1) = (0 : Int)))) && ((decide ((0 : Int) < (w.length : Int))) || (decide ((bAndNot .u32 n.2.2.2.1 ret17v.1) = (0 : Int))))))))) (fun ret39v => [toV1 (.int .u32) ret39v.1, toV1 .bool ret39v.2.1, toV1 (.int .i64) ret39v.2.2]) (fun ret39v => (⟨76, [(2, [], .v (.c (.p (.sl (.int .i64)) w))), (3, [], .v (.c (.ptr 3 0))), (7, [], .v (.c (.p (.int .u32) ret17v.1))), (9, [], .v (.c (.p (.int .i64) ret17v.2.2))), (10, [], .v (.c (.ptr 10 0))), (39, [], .tup [.c (.p (.int .u32) ret39v.1), .c (.p .bool ret39v.2.1), .c (.p (.int .i64) ret39v.2.2)])], [(3, [], .box [.p (.int .i64) n.1, .p (.int .i64) n.2.1, .p (.sl (.pr (.int .i64) (.pr (.int .i64) (.int .i64)))) n.2.2.1, .p (.int .u32) n.2.2.2.1, .p (.int .u32) n.2.2.2.2]), (10, [], .box [.p (.int .i64) n.1, .p (.int .i64) n.2.1, .own 34, .p (.int .u32) n.2.2.2.1, .p (.int .u32) n.2.2.2.2]), (34, [], .arr 41 (.pr (.int .i64) (.pr (.int .i64) (.int .i64))) ((([] : List (Int × (Int × Int))) ++ n.2.2.1) ++ [a]))]⟩ : St)) (by kernel_rfl) rfl (by kernel_rfl) rfl (by kernel_rfl) Try.call20 (by kernel_rfl) (fun ret39v => by kernel_rfl) (fun _ _ => rfl) (fun hg => link20 (n.1, (n.2.1, (((([] : List (Int × (Int × Int))) ++ n.2.2.1) ++ [a]), n.2.2.2))) w _ h) (fun hg => noF hg) (fun ret39v h => ?_)
        have h : VC22 (n.1, (n.2.1, (((([] : List (Int × (Int × Int))) ++ n.2.2.1) ++ [a]), n.2.2.2))) (fun (ret44v : Int) => (((!decide (ret44v = (0 : Int))) = true → K ((decide (ret17v.2.2 = (0 : Int))) && (!decide (ret39v.2.2 = (0 : Int))))) ∧ ((!decide (ret44v = (0 : Int))) = false → K ((((decide (ret17v.2.2 = (0 : Int))) && (decide (ret39v.2.2 = (0 : Int)))) && (decide ((bAndNot .u32 ret17v.1 ret39v.1) = (0 : Int)))) && ((decide ((0 : Int) < (w.length : Int))) || (decide ((bAndNot .u32 n.2.2.2.1 ret17v.1) = (0 : Int)))))))) := h
        refine awl_runp 7 [2, 3, 7, 9, 10, 11, 13] [3, 10, 34] (ob := (True ∧ True ∧ True ∧ True ∧ True ∧ True ∧ True ∧ True)) (st' := (⟨76, [(2, [], .v (.c (.p (.sl (.int .i64)) w))), (3, [], .v (.c (.ptr 3 0))), (7, [], .v (.c (.p (.int .u32) ret17v.1))), (9, [], .v (.c (.p (.int .i64) ret17v.2.2))), (10, [], .v (.c (.ptr 10 0))), (11, [], .v (.c (.p (.int .u32) ret39v.1))), (13, [], .v (.c (.p (.int .i64) ret39v.2.2)))], [(3, [], .box [.p (.int .i64) n.1, .p (.int .i64) n.2.1, .p (.sl (.pr (.int .i64) (.pr (.int .i64) (.int .i64)))) n.2.2.1, .p (.int .u32) n.2.2.2.1, .p (.int .u32) n.2.2.2.2]), (10, [], .box [.p (.int .i64) n.1, .p (.int .i64) n.2.1, .own 34, .p (.int .u32) n.2.2.2.1, .p (.int .u32) n.2.2.2.2]), (34, [], .arr 41 (.pr (.int .i64) (.pr (.int .i64) (.int .i64))) ((([] : List (Int × (Int × Int))) ++ n.2.2.1) ++ [a]))]⟩ : St)) (by kernel_rfl) ⟨trivial, trivial, trivial, trivial, trivial, trivial, trivial, trivial⟩ ?_
        refine awl_nil ?_
        refine thenQ_n ?_
        refine aw_seq ?_
        refine aw_seq ?_
        refine aw_region ?_
        refine awl_runp 1 [2, 3, 7, 9, 11, 13, 43] [3, 34] (ob := (True ∧ True)) (st' := (⟨76, [(2, [], .v (.c (.p (.sl (.int .i64)) w))), (3, [], .v (.c (.ptr 3 0))), (7, [], .v (.c (.p (.int .u32) ret17v.1))), (9, [], .v (.c (.p (.int .i64) ret17v.2.2))), (11, [], .v (.c (.p (.int .u32) ret39v.1))), (13, [], .v (.c (.p (.int .i64) ret39v.2.2))), (43, [], .v (.agg [.p (.int .i64) n.1, .p (.int .i64) n.2.1, .own 34, .p (.int .u32) n.2.2.2.1, .p (.int .u32) n.2.2.2.2]))], [(3, [], .box [.p (.int .i64) n.1, .p (.int .i64) n.2.1, .p (.sl (.pr (.int .i64) (.pr (.int .i64) (.int .i64)))) n.2.2.1, .p (.int .u32) n.2.2.2.1, .p (.int .u32) n.2.2.2.2]), (34, [], .arr 41 (.pr (.int .i64) (.pr (.int .i64) (.int .i64))) ((([] : List (Int × (Int × Int))) ++ n.2.2.1) ++ [a]))]⟩ : St)) (by kernel_rfl) ⟨trivial, trivial⟩ ?_
        refine awl_callk (p := []) (l := [toV1 (.pr (.int .i64) (.pr (.int .i64) (.pr (.sl (.pr (.int .i64) (.pr (.int .i64) (.int .i64)))) (.pr (.int .u32) (.int .u32))))) (n.1, (n.2.1, (((([] : List (Int × (Int × Int))) ++ n.2.2.1) ++ [a]), n.2.2.2)))]) (cl := []) true [.d (.pr (.int .i64) (.pr (.int .i64) (.pr (.sl (.pr (.int .i64) (.pr (.int .i64) (.int .i64)))) (.pr (.int .u32) (.int .u32)))))] [2, 3, 7, 9, 11, 13, 44] [3] (fun (ret44v : Int) => (((!decide (ret44v = (0 : Int))) = true → K ((decide (ret17v.2.2 = (0 : Int))) && (!decide (ret39v.2.2 = (0 : Int))))) ∧ ((!decide (ret44v = (0 : Int))) = false → K ((((decide (ret17v.2.2 = (0 : Int))) && (decide (ret39v.2.2 = (0 : Int)))) && (decide ((bAndNot .u32 ret17v.1 ret39v.1) = (0 : Int)))) && ((decide ((0 : Int) < (w.length : Int))) || (decide ((bAndNot .u32 n.2.2.2.1 ret17v.1) = (0 : Int)))))))) (fun ret44v => [toV1 (.int .i64) ret44v]) (fun ret44v => (⟨76, [(2, [], .v (.c (.p (.sl (.int .i64)) w))), (3, [], .v (.c (.ptr 3 0))), (7, [], .v (.c (.p (.int .u32) ret17v.1))), (9, [], .v (.c (.p (.int .i64) ret17v.2.2))), (11, [], .v (.c (.p (.int .u32) ret39v.1))), (13, [], .v (.c (.p (.int .i64) ret39v.2.2))), (44, [], .v (.c (.p (.int .i64) ret44v)))], [(3, [], .box [.p (.int .i64) n.1, .p (.int .i64) n.2.1, .p (.sl (.pr (.int .i64) (.pr (.int .i64) (.int .i64)))) n.2.2.1, .p (.int .u32) n.2.2.2.1, .p (.int .u32) n.2.2.2.2])]⟩ : St)) (by kernel_rfl) rfl (by kernel_rfl) rfl (by kernel_rfl) Try.call22 (by kernel_rfl) (fun ret44v => by kernel_rfl) (fun _ _ => rfl) (fun hg => link22 (n.1, (n.2.1, (((([] : List (Int × (Int × Int))) ++ n.2.2.1) ++ [a]), n.2.2.2))) _ h) (fun hg => noF hg) (fun ret44v h => ?_)
        have h : (((!decide (ret44v = (0 : Int))) = true → K ((decide (ret17v.2.2 = (0 : Int))) && (!decide (ret39v.2.2 = (0 : Int))))) ∧ ((!decide (ret44v = (0 : Int))) = false → K ((((decide (ret17v.2.2 = (0 : Int))) && (decide (ret39v.2.2 = (0 : Int)))) && (decide ((bAndNot .u32 ret17v.1 ret39v.1) = (0 : Int)))) && ((decide ((0 : Int) < (w.length : Int))) || (decide ((bAndNot .u32 n.2.2.2.1 ret17v.1) = (0 : Int))))))) := h
        refine awl_runp 1 [2, 3, 7, 9, 11, 13, 45] [3] (ob := (True ∧ True)) (st' := (⟨76, [(2, [], .v (.c (.p (.sl (.int .i64)) w))), (3, [], .v (.c (.ptr 3 0))), (7, [], .v (.c (.p (.int .u32) ret17v.1))), (9, [], .v (.c (.p (.int .i64) ret17v.2.2))), (11, [], .v (.c (.p (.int .u32) ret39v.1))), (13, [], .v (.c (.p (.int .i64) ret39v.2.2))), (45, [], .v (.c (.p .bool (!decide (ret44v = (0 : Int))))))], [(3, [], .box [.p (.int .i64) n.1, .p (.int .i64) n.2.1, .p (.sl (.pr (.int .i64) (.pr (.int .i64) (.int .i64)))) n.2.2.1, .p (.int .u32) n.2.2.2.1, .p (.int .u32) n.2.2.2.2])]⟩ : St)) (by kernel_rfl) ⟨trivial, trivial⟩ ?_
        refine awl_nil ?_
        refine thenQ_n ?_
        refine aw_cond (b := (!decide (ret44v = (0 : Int)))) (by kernel_rfl) (fun hb => ?_) (fun hb => ?_)
        · have h := h.1 hb
          refine aw_seq ?_
          refine aw_region ?_
          refine awl_runp 7 [6] [] (ob := (True ∧ True ∧ True ∧ ((decide (ret17v.2.2 = (0 : Int))) = true → True) ∧ ((decide (ret17v.2.2 = (0 : Int))) = true → True) ∧ True ∧ True ∧ True)) (st' := (⟨76, [(6, [], .v (.c (.p .bool ((decide (ret17v.2.2 = (0 : Int))) && (!decide (ret39v.2.2 = (0 : Int)))))))], []⟩ : St)) (by kernel_rfl) ⟨trivial, trivial, trivial, (fun _ => trivial), (fun _ => trivial), trivial, trivial, trivial⟩ ?_
          refine awl_nil ?_
          refine thenQ_n ?_
          refine aw_ret ?_
          refine thenQ_r ?_
          exact retQ_r (σ := Bool) (R := (fun y => [toV1 .bool y])) (ob := (True ∧ True)) ((decide (ret17v.2.2 = (0 : Int))) && (!decide (ret39v.2.2 = (0 : Int)))) (by kernel_rfl) ⟨trivial, trivial⟩ h
        · have h := h.2 hb
          refine aw_skip ?_
          refine thenQ_n ?_
          refine aw_seq ?_
          refine aw_region ?_
          refine awl_runp 25 [6] [] (ob := (True ∧ True ∧ True ∧ ((decide (ret17v.2.2 = (0 : Int))) = true → True) ∧ ((decide (ret17v.2.2 = (0 : Int))) = true → True) ∧ True ∧ True ∧ (((decide (ret17v.2.2 = (0 : Int))) && (decide (ret39v.2.2 = (0 : Int)))) = true → True) ∧ (((decide (ret17v.2.2 = (0 : Int))) && (decide (ret39v.2.2 = (0 : Int)))) = true → True) ∧ (((decide (ret17v.2.2 = (0 : Int))) && (decide (ret39v.2.2 = (0 : Int)))) = true → True) ∧ (((decide (ret17v.2.2 = (0 : Int))) && (decide (ret39v.2.2 = (0 : Int)))) = true → True) ∧ True ∧ True ∧ ((((decide (ret17v.2.2 = (0 : Int))) && (decide (ret39v.2.2 = (0 : Int)))) && (decide ((bAndNot .u32 ret17v.1 ret39v.1) = (0 : Int)))) = true → True) ∧ ((((decide (ret17v.2.2 = (0 : Int))) && (decide (ret39v.2.2 = (0 : Int)))) && (decide ((bAndNot .u32 ret17v.1 ret39v.1) = (0 : Int)))) = true → True) ∧ ((((decide (ret17v.2.2 = (0 : Int))) && (decide (ret39v.2.2 = (0 : Int)))) && (decide ((bAndNot .u32 ret17v.1 ret39v.1) = (0 : Int)))) = true → True) ∧ ((((decide (ret17v.2.2 = (0 : Int))) && (decide (ret39v.2.2 = (0 : Int)))) && (decide ((bAndNot .u32 ret17v.1 ret39v.1) = (0 : Int)))) = true → True) ∧ ((((decide (ret17v.2.2 = (0 : Int))) && (decide (ret39v.2.2 = (0 : Int)))) && (decide ((bAndNot .u32 ret17v.1 ret39v.1) = (0 : Int)))) = true → ((decide ((0 : Int) < (w.length : Int))) = false → True)) ∧ ((((decide (ret17v.2.2 = (0 : Int))) && (decide (ret39v.2.2 = (0 : Int)))) && (decide ((bAndNot .u32 ret17v.1 ret39v.1) = (0 : Int)))) = true → ((decide ((0 : Int) < (w.length : Int))) = false → True)) ∧ ((((decide (ret17v.2.2 = (0 : Int))) && (decide (ret39v.2.2 = (0 : Int)))) && (decide ((bAndNot .u32 ret17v.1 ret39v.1) = (0 : Int)))) = true → ((decide ((0 : Int) < (w.length : Int))) = false → True)) ∧ ((((decide (ret17v.2.2 = (0 : Int))) && (decide (ret39v.2.2 = (0 : Int)))) && (decide ((bAndNot .u32 ret17v.1 ret39v.1) = (0 : Int)))) = true → ((decide ((0 : Int) < (w.length : Int))) = false → True)) ∧ ((((decide (ret17v.2.2 = (0 : Int))) && (decide (ret39v.2.2 = (0 : Int)))) && (decide ((bAndNot .u32 ret17v.1 ret39v.1) = (0 : Int)))) = true → ((decide ((0 : Int) < (w.length : Int))) = false → True)) ∧ ((((decide (ret17v.2.2 = (0 : Int))) && (decide (ret39v.2.2 = (0 : Int)))) && (decide ((bAndNot .u32 ret17v.1 ret39v.1) = (0 : Int)))) = true → True) ∧ True ∧ True ∧ True)) (st' := (⟨76, [(6, [], .v (.c (.p .bool ((((decide (ret17v.2.2 = (0 : Int))) && (decide (ret39v.2.2 = (0 : Int)))) && (decide ((bAndNot .u32 ret17v.1 ret39v.1) = (0 : Int)))) && ((decide ((0 : Int) < (w.length : Int))) || (decide ((bAndNot .u32 n.2.2.2.1 ret17v.1) = (0 : Int))))))))], []⟩ : St)) (by kernel_rfl) ⟨trivial, trivial, trivial, (fun _ => trivial), (fun _ => trivial), trivial, trivial, (fun _ => trivial), (fun _ => trivial), (fun _ => trivial), (fun _ => trivial), trivial, trivial, (fun _ => trivial), (fun _ => trivial), (fun _ => trivial), (fun _ => trivial), (fun _ _ => trivial), (fun _ _ => trivial), (fun _ _ => trivial), (fun _ _ => trivial), (fun _ _ => trivial), (fun _ => trivial), trivial, trivial, trivial⟩ ?_
          refine awl_nil ?_
          refine thenQ_n ?_
          refine aw_ret ?_
          exact retQ_r (σ := Bool) (R := (fun y => [toV1 .bool y])) (ob := (True ∧ True)) ((((decide (ret17v.2.2 = (0 : Int))) && (decide (ret39v.2.2 = (0 : Int)))) && (decide ((bAndNot .u32 ret17v.1 ret39v.1) = (0 : Int)))) && ((decide ((0 : Int) < (w.length : Int))) || (decide ((bAndNot .u32 n.2.2.2.1 ret17v.1) = (0 : Int))))) (by kernel_rfl) ⟨trivial, trivial⟩ h
      · have h := h
        refine adop_stepp [2, 3, 7, 9, 10, 28, 30, 33] [3, 10, 28, 33] (ob := True) (st' := (⟨76, [(2, [], .v (.c (.p (.sl (.int .i64)) w))), (3, [], .v (.c (.ptr 3 0))), (7, [], .v (.c (.p (.int .u32) ret17v.1))), (9, [], .v (.c (.p (.int .i64) ret17v.2.2))), (10, [], .v (.c (.ptr 10 0))), (28, [], .v (.c (.own 28))), (30, [], .v (.c (.p (.sl (.pr (.int .i64) (.pr (.int .i64) (.int .i64)))) n.2.2.1))), (33, [], .v (.c (.own 33)))], [(3, [], .box [.p (.int .i64) n.1, .p (.int .i64) n.2.1, .p (.sl (.pr (.int .i64) (.pr (.int .i64) (.int .i64)))) n.2.2.1, .p (.int .u32) n.2.2.2.1, .p (.int .u32) n.2.2.2.2]), (10, [], .box [.p (.int .i64) n.1, .p (.int .i64) n.2.1, .p (.sl (.pr (.int .i64) (.pr (.int .i64) (.int .i64)))) n.2.2.1, .p (.int .u32) n.2.2.2.1, .p (.int .u32) n.2.2.2.2]), (28, [], .arr 41 (.pr (.int .i64) (.pr (.int .i64) (.int .i64))) ([] : List (Int × (Int × Int)))), (33, [], .arr 41 (.pr (.int .i64) (.pr (.int .i64) (.int .i64))) [a])]⟩ : St)) rfl (by kernel_rfl) trivial ?_
        refine awd_one (i := 3) (by kernel_rfl) ?_
        obtain ⟨o1, h⟩ := h
        refine adop_stepp [2, 3, 7, 9, 10, 31, 33] [3, 10, 31, 33] (ob := roomN (([] : List (Int × (Int × Int))).length + n.2.2.1.length)) (st' := (⟨76, [(2, [], .v (.c (.p (.sl (.int .i64)) w))), (3, [], .v (.c (.ptr 3 0))), (7, [], .v (.c (.p (.int .u32) ret17v.1))), (9, [], .v (.c (.p (.int .i64) ret17v.2.2))), (10, [], .v (.c (.ptr 10 0))), (31, [], .v (.c (.own 31))), (33, [], .v (.c (.own 33)))], [(3, [], .box [.p (.int .i64) n.1, .p (.int .i64) n.2.1, .p (.sl (.pr (.int .i64) (.pr (.int .i64) (.int .i64)))) n.2.2.1, .p (.int .u32) n.2.2.2.1, .p (.int .u32) n.2.2.2.2]), (10, [], .box [.p (.int .i64) n.1, .p (.int .i64) n.2.1, .p (.sl (.pr (.int .i64) (.pr (.int .i64) (.int .i64)))) n.2.2.1, .p (.int .u32) n.2.2.2.1, .p (.int .u32) n.2.2.2.2]), (31, [], .arr 41 (.pr (.int .i64) (.pr (.int .i64) (.int .i64))) (([] : List (Int × (Int × Int))) ++ n.2.2.1)), (33, [], .arr 41 (.pr (.int .i64) (.pr (.int .i64) (.int .i64))) [a])]⟩ : St)) rfl (by kernel_rfl) o1 ?_
        refine awd_one (i := 6) (by kernel_rfl) ?_
        obtain ⟨o1, h⟩ := h
        refine adop_stepp [2, 3, 7, 9, 10, 34] [3, 10, 34] (ob := roomN ((([] : List (Int × (Int × Int))) ++ n.2.2.1).length + [a].length)) (st' := (⟨76, [(2, [], .v (.c (.p (.sl (.int .i64)) w))), (3, [], .v (.c (.ptr 3 0))), (7, [], .v (.c (.p (.int .u32) ret17v.1))), (9, [], .v (.c (.p (.int .i64) ret17v.2.2))), (10, [], .v (.c (.ptr 10 0))), (34, [], .v (.c (.own 34)))], [(3, [], .box [.p (.int .i64) n.1, .p (.int .i64) n.2.1, .p (.sl (.pr (.int .i64) (.pr (.int .i64) (.int .i64)))) n.2.2.1, .p (.int .u32) n.2.2.2.1, .p (.int .u32) n.2.2.2.2]), (10, [], .box [.p (.int .i64) n.1, .p (.int .i64) n.2.1, .p (.sl (.pr (.int .i64) (.pr (.int .i64) (.int .i64)))) n.2.2.1, .p (.int .u32) n.2.2.2.1, .p (.int .u32) n.2.2.2.2]), (34, [], .arr 41 (.pr (.int .i64) (.pr (.int .i64) (.int .i64))) ((([] : List (Int × (Int × Int))) ++ n.2.2.1) ++ [a]))]⟩ : St)) rfl (by kernel_rfl) o1 ?_
        refine awd_runp (by kernel_rfl) [7] [2, 3, 7, 9, 10, 34, 35] [3, 10, 34] (ob := (True ∧ True)) (done' := [7, 6, 3, 5, 0, 4, 2, 1]) (st' := (⟨76, [(2, [], .v (.c (.p (.sl (.int .i64)) w))), (3, [], .v (.c (.ptr 3 0))), (7, [], .v (.c (.p (.int .u32) ret17v.1))), (9, [], .v (.c (.p (.int .i64) ret17v.2.2))), (10, [], .v (.c (.ptr 10 0))), (34, [], .v (.c (.own 34))), (35, [], .v (.c (.ptr 10 2)))], [(3, [], .box [.p (.int .i64) n.1, .p (.int .i64) n.2.1, .p (.sl (.pr (.int .i64) (.pr (.int .i64) (.int .i64)))) n.2.2.1, .p (.int .u32) n.2.2.2.1, .p (.int .u32) n.2.2.2.2]), (10, [], .box [.p (.int .i64) n.1, .p (.int .i64) n.2.1, .p (.sl (.pr (.int .i64) (.pr (.int .i64) (.int .i64)))) n.2.2.1, .p (.int .u32) n.2.2.2.1, .p (.int .u32) n.2.2.2.2]), (34, [], .arr 41 (.pr (.int .i64) (.pr (.int .i64) (.int .i64))) ((([] : List (Int × (Int × Int))) ++ n.2.2.1) ++ [a]))]⟩ : St)) (by kernel_rfl) ⟨trivial, trivial⟩ ?_
        refine awd_one (i := 8) (by kernel_rfl) ?_
        refine adop_stepp [2, 3, 7, 9, 10] [3, 10, 34] (ob := True) (st' := (⟨76, [(2, [], .v (.c (.p (.sl (.int .i64)) w))), (3, [], .v (.c (.ptr 3 0))), (7, [], .v (.c (.p (.int .u32) ret17v.1))), (9, [], .v (.c (.p (.int .i64) ret17v.2.2))), (10, [], .v (.c (.ptr 10 0)))], [(3, [], .box [.p (.int .i64) n.1, .p (.int .i64) n.2.1, .p (.sl (.pr (.int .i64) (.pr (.int .i64) (.int .i64)))) n.2.2.1, .p (.int .u32) n.2.2.2.1, .p (.int .u32) n.2.2.2.2]), (10, [], .box [.p (.int .i64) n.1, .p (.int .i64) n.2.1, .own 34, .p (.int .u32) n.2.2.2.1, .p (.int .u32) n.2.2.2.2]), (34, [], .arr 41 (.pr (.int .i64) (.pr (.int .i64) (.int .i64))) ((([] : List (Int × (Int × Int))) ++ n.2.2.1) ++ [a]))]⟩ : St)) rfl (by kernel_rfl) trivial ?_
        refine awd_done (by kernel_rfl) ?_
        refine thenQ_n ?_
        refine aw_seq ?_
        refine aw_region ?_
        refine awl_runp 2 [2, 3, 7, 9, 10, 37, 38] [3, 10, 34] (ob := (True ∧ True ∧ True)) (st' := (⟨76, [(2, [], .v (.c (.p (.sl (.int .i64)) w))), (3, [], .v (.c (.ptr 3 0))), (7, [], .v (.c (.p (.int .u32) ret17v.1))), (9, [], .v (.c (.p (.int .i64) ret17v.2.2))), (10, [], .v (.c (.ptr 10 0))), (37, [], .v (.agg [.p (.int .i64) n.1, .p (.int .i64) n.2.1, .own 34, .p (.int .u32) n.2.2.2.1, .p (.int .u32) n.2.2.2.2])), (38, [], .v (.c (.p (.sl (.int .i64)) w)))], [(3, [], .box [.p (.int .i64) n.1, .p (.int .i64) n.2.1, .p (.sl (.pr (.int .i64) (.pr (.int .i64) (.int .i64)))) n.2.2.1, .p (.int .u32) n.2.2.2.1, .p (.int .u32) n.2.2.2.2]), (10, [], .box [.p (.int .i64) n.1, .p (.int .i64) n.2.1, .own 34, .p (.int .u32) n.2.2.2.1, .p (.int .u32) n.2.2.2.2]), (34, [], .arr 41 (.pr (.int .i64) (.pr (.int .i64) (.int .i64))) ((([] : List (Int × (Int × Int))) ++ n.2.2.1) ++ [a]))]⟩ : St)) (by kernel_rfl) ⟨trivial, trivial, trivial⟩ ?_
        refine awl_callk (p := []) (l := [toV1 (.pr (.int .i64) (.pr (.int .i64) (.pr (.sl (.pr (.int .i64) (.pr (.int .i64) (.int .i64)))) (.pr (.int .u32) (.int .u32))))) (n.1, (n.2.1, (((([] : List (Int × (Int × Int))) ++ n.2.2.1) ++ [a]), n.2.2.2))), toV1 (.sl (.int .i64)) w]) (cl := []) true [.d (.pr (.int .i64) (.pr (.int .i64) (.pr (.sl (.pr (.int .i64) (.pr (.int .i64) (.int .i64)))) (.pr (.int .u32) (.int .u32))))), .d (.sl (.int .i64))] [2, 3, 7, 9, 10, 39] [3, 10, 34] (fun (ret39v : Int × Bool × Int) => VC22 (n.1, (n.2.1, (((([] : List (Int × (Int × Int))) ++ n.2.2.1) ++ [a]), n.2.2.2))) (fun (ret44v : Int) => (((!decide (ret44v = (0 : Int))) = true → K ((decide (ret17v.2.2 = (0 : Int))) && (!decide (ret39v.2.2 = (0 : Int))))) ∧ ((!decide (ret44v = (0 : Int))) = false → K ((((decide (ret17v.2.2 = (0 : Int))) && (decide (ret39v.2.2 = (0 : Int)))) && (decide ((bAndNot .u32 ret17v.1 ret39v.1) = (0 : Int)))) && ((decide ((0 : Int) < (w.length : Int))) || (decide ((bAndNot .u32 n.2.2.2.1 ret17v.1) = (0 : Int))))))))) (fun ret39v => [toV1 (.int .u32) ret39v.1, toV1 .bool ret39v.2.1, toV1 (.int .i64) ret39v.2.2]) (fun ret39v => (⟨76, [(2, [], .v (.c (.p (.sl (.int .i64)) w))), (3, [], .v (.c (.ptr 3 0))), (7, [], .v (.c (.p (.int .u32) ret17v.1))), (9, [], .v (.c (.p (.int .i64) ret17v.2.2))), (10, [], .v (.c (.ptr 10 0))), (39, [], .tup [.c (.p (.int .u32) ret39v.1), .c (.p .bool ret39v.2.1), .c (.p (.int .i64) ret39v.2.2)])], [(3, [], .box [.p (.int .i64) n.1, .p (.int .i64) n.2.1, .p (.sl (.pr (.int .i64) (.pr (.int .i64) (.int .i64)))) n.2.2.1, .p (.int .u32) n.2.2.2.1, .p (.int .u32) n.2.2.2.2]), (10, [], .box [.p (.int .i64) n.1, .p (.int .i64) n.2.1, .own 34, .p (.int .u32) n.2.2.2.1, .p (.int .u32) n.2.2.2.2]), (34, [], .arr 41 (.pr (.int .i64) (.pr (.int .i64) (.int .i64))) ((([] : List (Int × (Int × Int))) ++ n.2.2.1) ++ [a]))]⟩ : St)) (by kernel_rfl) rfl (by kernel_rfl) rfl (by kernel_rfl) Try.call20 (by kernel_rfl) (fun ret39v => by kernel_rfl) (fun _ _ => rfl) (fun hg => link20 (n.1, (n.2.1, (((([] : List (Int × (Int × Int))) ++ n.2.2.1) ++ [a]), n.2.2.2))) w _ h) (fun hg => noF hg) (fun ret39v h => ?_)
        have h : VC22 (n.1, (n.2.1, (((([] : List (Int × (Int × Int))) ++ n.2.2.1) ++ [a]), n.2.2.2))) (fun (ret44v : Int) => (((!decide (ret44v = (0 : Int))) = true → K ((decide (ret17v.2.2 = (0 : Int))) && (!decide (ret39v.2.2 = (0 : Int))))) ∧ ((!decide (ret44v = (0 : Int))) = false → K ((((decide (ret17v.2.2 = (0 : Int))) && (decide (ret39v.2.2 = (0 : Int)))) && (decide ((bAndNot .u32 ret17v.1 ret39v.1) = (0 : Int)))) && ((decide ((0 : Int) < (w.length : Int))) || (decide ((bAndNot .u32 n.2.2.2.1 ret17v.1) = (0 : Int)))))))) := h
        refine awl_runp 7 [2, 3, 7, 9, 10, 11, 13] [3, 10, 34] (ob := (True ∧ True ∧ True ∧ True ∧ True ∧ True ∧ True ∧ True)) (st' := (⟨76, [(2, [], .v (.c (.p (.sl (.int .i64)) w))), (3, [], .v (.c (.ptr 3 0))), (7, [], .v (.c (.p (.int .u32) ret17v.1))), (9, [], .v (.c (.p (.int .i64) ret17v.2.2))), (10, [], .v (.c (.ptr 10 0))), (11, [], .v (.c (.p (.int .u32) ret39v.1))), (13, [], .v (.c (.p (.int .i64) ret39v.2.2)))], [(3, [], .box [.p (.int .i64) n.1, .p (.int .i64) n.2.1, .p (.sl (.pr (.int .i64) (.pr (.int .i64) (.int .i64)))) n.2.2.1, .p (.int .u32) n.2.2.2.1, .p (.int .u32) n.2.2.2.2]), (10, [], .box [.p (.int .i64) n.1, .p (.int .i64) n.2.1, .own 34, .p (.int .u32) n.2.2.2.1, .p (.int .u32) n.2.2.2.2]), (34, [], .arr 41 (.pr (.int .i64) (.pr (.int .i64) (.int .i64))) ((([] : List (Int × (Int × Int))) ++ n.2.2.1) ++ [a]))]⟩ : St)) (by kernel_rfl) ⟨trivial, trivial, trivial, trivial, trivial, trivial, trivial, trivial⟩ ?_
        refine awl_nil ?_
        refine thenQ_n ?_
        refine aw_seq ?_
        refine aw_seq ?_
        refine aw_region ?_
        refine awl_runp 1 [2, 3, 7, 9, 11, 13, 43] [3, 34] (ob := (True ∧ True)) (st' := (⟨76, [(2, [], .v (.c (.p (.sl (.int .i64)) w))), (3, [], .v (.c (.ptr 3 0))), (7, [], .v (.c (.p (.int .u32) ret17v.1))), (9, [], .v (.c (.p (.int .i64) ret17v.2.2))), (11, [], .v (.c (.p (.int .u32) ret39v.1))), (13, [], .v (.c (.p (.int .i64) ret39v.2.2))), (43, [], .v (.agg [.p (.int .i64) n.1, .p (.int .i64) n.2.1, .own 34, .p (.int .u32) n.2.2.2.1, .p (.int .u32) n.2.2.2.2]))], [(3, [], .box [.p (.int .i64) n.1, .p (.int .i64) n.2.1, .p (.sl (.pr (.int .i64) (.pr (.int .i64) (.int .i64)))) n.2.2.1, .p (.int .u32) n.2.2.2.1, .p (.int .u32) n.2.2.2.2]), (34, [], .arr 41 (.pr (.int .i64) (.pr (.int .i64) (.int .i64))) ((([] : List (Int × (Int × Int))) ++ n.2.2.1) ++ [a]))]⟩ : St)) (by kernel_rfl) ⟨trivial, trivial⟩ ?_
        refine awl_callk (p := []) (l := [toV1 (.pr (.int .i64) (.pr (.int .i64) (.pr (.sl (.pr (.int .i64) (.pr (.int .i64) (.int .i64)))) (.pr (.int .u32) (.int .u32))))) (n.1, (n.2.1, (((([] : List (Int × (Int × Int))) ++ n.2.2.1) ++ [a]), n.2.2.2)))]) (cl := []) true [.d (.pr (.int .i64) (.pr (.int .i64) (.pr (.sl (.pr (.int .i64) (.pr (.int .i64) (.int .i64)))) (.pr (.int .u32) (.int .u32)))))] [2, 3, 7, 9, 11, 13, 44] [3] (fun (ret44v : Int) => (((!decide (ret44v = (0 : Int))) = true → K ((decide (ret17v.2.2 = (0 : Int))) && (!decide (ret39v.2.2 = (0 : Int))))) ∧ ((!decide (ret44v = (0 : Int))) = false → K ((((decide (ret17v.2.2 = (0 : Int))) && (decide (ret39v.2.2 = (0 : Int)))) && (decide ((bAndNot .u32 ret17v.1 ret39v.1) = (0 : Int)))) && ((decide ((0 : Int) < (w.length : Int))) || (decide ((bAndNot .u32 n.2.2.2.1 ret17v.1) = (0 : Int)))))))) (fun ret44v => [toV1 (.int .i64) ret44v]) (fun ret44v => (⟨76, [(2, [], .v (.c (.p (.sl (.int .i64)) w))), (3, [], .v (.c (.ptr 3 0))), (7, [], .v (.c (.p (.int .u32) ret17v.1))), (9, [], .v (.c (.p (.int .i64) ret17v.2.2))), (11, [], .v (.c (.p (.int .u32) ret39v.1))), (13, [], .v (.c (.p (.int .i64) ret39v.2.2))), (44, [], .v (.c (.p (.int .i64) ret44v)))], [(3, [], .box [.p (.int .i64) n.1, .p (.int .i64) n.2.1, .p (.sl (.pr (.int .i64) (.pr (.int .i64) (.int .i64)))) n.2.2.1, .p (.int .u32) n.2.2.2.1, .p (.int .u32) n.2.2.2.2])]⟩ : St)) (by kernel_rfl) rfl (by kernel_rfl) rfl (by kernel_rfl) Try.call22 (by kernel_rfl) (fun ret44v => by kernel_rfl) (fun _ _ => rfl) (fun hg => link22 (n.1, (n.2.1, (((([] : List (Int × (Int × Int))) ++ n.2.2.1) ++ [a]), n.2.2.2))) _ h) (fun hg => noF hg) (fun ret44v h => ?_)
        have h : (((!decide (ret44v = (0 : Int))) = true → K ((decide (ret17v.2.2 = (0 : Int))) && (!decide (ret39v.2.2 = (0 : Int))))) ∧ ((!decide (ret44v = (0 : Int))) = false → K ((((decide (ret17v.2.2 = (0 : Int))) && (decide (ret39v.2.2 = (0 : Int)))) && (decide ((bAndNot .u32 ret17v.1 ret39v.1) = (0 : Int)))) && ((decide ((0 : Int) < (w.length : Int))) || (decide ((bAndNot .u32 n.2.2.2.1 ret17v.1) = (0 : Int))))))) := h
        refine awl_runp 1 [2, 3, 7, 9, 11, 13, 45] [3] (ob := (True ∧ True)) (st' := (⟨76, [(2, [], .v (.c (.p (.sl (.int .i64)) w))), (3, [], .v (.c (.ptr 3 0))), (7, [], .v (.c (.p (.int .u32) ret17v.1))), (9, [], .v (.c (.p (.int .i64) ret17v.2.2))), (11, [], .v (.c (.p (.int .u32) ret39v.1))), (13, [], .v (.c (.p (.int .i64) ret39v.2.2))), (45, [], .v (.c (.p .bool (!decide (ret44v = (0 : Int))))))], [(3, [], .box [.p (.int .i64) n.1, .p (.int .i64) n.2.1, .p (.sl (.pr (.int .i64) (.pr (.int .i64) (.int .i64)))) n.2.2.1, .p (.int .u32) n.2.2.2.1, .p (.int .u32) n.2.2.2.2])]⟩ : St)) (by kernel_rfl) ⟨trivial, trivial⟩ ?_
        refine awl_nil ?_
        refine thenQ_n ?_
        refine aw_cond (b := (!decide (ret44v = (0 : Int)))) (by kernel_rfl) (fun hb => ?_) (fun hb => ?_)
        · have h := h.1 hb
          refine aw_seq ?_
          refine aw_region ?_
          refine awl_runp 7 [6] [] (ob := (True ∧ True ∧ True ∧ ((decide (ret17v.2.2 = (0 : Int))) = true → True) ∧ ((decide (ret17v.2.2 = (0 : Int))) = true → True) ∧ True ∧ True ∧ True)) (st' := (⟨76, [(6, [], .v (.c (.p .bool ((decide (ret17v.2.2 = (0 : Int))) && (!decide (ret39v.2.2 = (0 : Int)))))))], []⟩ : St)) (by kernel_rfl) ⟨trivial, trivial, trivial, (fun _ => trivial), (fun _ => trivial), trivial, trivial, trivial⟩ ?_
          refine awl_nil ?_
          refine thenQ_n ?_
          refine aw_ret ?_
          refine thenQ_r ?_
          exact retQ_r (σ := Bool) (R := (fun y => [toV1 .bool y])) (ob := (True ∧ True)) ((decide (ret17v.2.2 = (0 : Int))) && (!decide (ret39v.2.2 = (0 : Int)))) (by kernel_rfl) ⟨trivial, trivial⟩ h
        · have h := h.2 hb
          refine aw_skip ?_
          refine thenQ_n ?_
          refine aw_seq ?_
          refine aw_region ?_
          refine awl_runp 25 [6] [] (ob := (True ∧ True ∧ True ∧ ((decide (ret17v.2.2 = (0 : Int))) = true → True) ∧ ((decide (ret17v.2.2 = (0 : Int))) = true → True) ∧ True ∧ True ∧ (((decide (ret17v.2.2 = (0 : Int))) && (decide (ret39v.2.2 = (0 : Int)))) = true → True) ∧ (((decide (ret17v.2.2 = (0 : Int))) && (decide (ret39v.2.2 = (0 : Int)))) = true → True) ∧ (((decide (ret17v.2.2 = (0 : Int))) && (decide (ret39v.2.2 = (0 : Int)))) = true → True) ∧ (((decide (ret17v.2.2 = (0 : Int))) && (decide (ret39v.2.2 = (0 : Int)))) = true → True) ∧ True ∧ True ∧ ((((decide (ret17v.2.2 = (0 : Int))) && (decide (ret39v.2.2 = (0 : Int)))) && (decide ((bAndNot .u32 ret17v.1 ret39v.1) = (0 : Int)))) = true → True) ∧ ((((decide (ret17v.2.2 = (0 : Int))) && (decide (ret39v.2.2 = (0 : Int)))) && (decide ((bAndNot .u32 ret17v.1 ret39v.1) = (0 : Int)))) = true → True) ∧ ((((decide (ret17v.2.2 = (0 : Int))) && (decide (ret39v.2.2 = (0 : Int)))) && (decide ((bAndNot .u32 ret17v.1 ret39v.1) = (0 : Int)))) = true → True) ∧ ((((decide (ret17v.2.2 = (0 : Int))) && (decide (ret39v.2.2 = (0 : Int)))) && (decide ((bAndNot .u32 ret17v.1 ret39v.1) = (0 : Int)))) = true → True) ∧ ((((decide (ret17v.2.2 = (0 : Int))) && (decide (ret39v.2.2 = (0 : Int)))) && (decide ((bAndNot .u32 ret17v.1 ret39v.1) = (0 : Int)))) = true → ((decide ((0 : Int) < (w.length : Int))) = false → True)) ∧ ((((decide (ret17v.2.2 = (0 : Int))) && (decide (ret39v.2.2 = (0 : Int)))) && (decide ((bAndNot .u32 ret17v.1 ret39v.1) = (0 : Int)))) = true → ((decide ((0 : Int) < (w.length : Int))) = false → True)) ∧ ((((decide (ret17v.2.2 = (0 : Int))) && (decide (ret39v.2.2 = (0 : Int)))) && (decide ((bAndNot .u32 ret17v.1 ret39v.1) = (0 : Int)))) = true → ((decide ((0 : Int) < (w.length : Int))) = false → True)) ∧ ((((decide (ret17v.2.2 = (0 : Int))) && (decide (ret39v.2.2 = (0 : Int)))) && (decide ((bAndNot .u32 ret17v.1 ret39v.1) = (0 : Int)))) = true → ((decide ((0 : Int) < (w.length : Int))) = false → True)) ∧ ((((decide (ret17v.2.2 = (0 : Int))) && (decide (ret39v.2.2 = (0 : Int)))) && (decide ((bAndNot .u32 ret17v.1 ret39v.1) = (0 : Int)))) = true → ((decide ((0 : Int) < (w.length : Int))) = false → True)) ∧ ((((decide (ret17v.2.2 = (0 : Int))) && (decide (ret39v.2.2 = (0 : Int)))) && (decide ((bAndNot .u32 ret17v.1 ret39v.1) = (0 : Int)))) = true → True) ∧ True ∧ True ∧ True)) (st' := (⟨76, [(6, [], .v (.c (.p .bool ((((decide (ret17v.2.2 = (0 : Int))) && (decide (ret39v.2.2 = (0 : Int)))) && (decide ((bAndNot .u32 ret17v.1 ret39v.1) = (0 : Int)))) && ((decide ((0 : Int) < (w.length : Int))) || (decide ((bAndNot .u32 n.2.2.2.1 ret17v.1) = (0 : Int))))))))], []⟩ : St)) (by kernel_rfl) ⟨trivial, trivial, trivial, (fun _ => trivial), (fun _ => trivial), trivial, trivial, (fun _ => trivial), (fun _ => trivial), (fun _ => trivial), (fun _ => trivial), trivial, trivial, (fun _ => trivial), (fun _ => trivial), (fun _ => trivial), (fun _ => trivial), (fun _ _ => trivial), (fun _ _ => trivial), (fun _ _ => trivial), (fun _ _ => trivial), (fun _ _ => trivial), (fun _ => trivial), trivial, trivial, trivial⟩ ?_
          refine awl_nil ?_
          refine thenQ_n ?_
          refine aw_ret ?_
          exact retQ_r (σ := Bool) (R := (fun y => [toV1 .bool y])) (ob := (True ∧ True)) ((((decide (ret17v.2.2 = (0 : Int))) && (decide (ret39v.2.2 = (0 : Int)))) && (decide ((bAndNot .u32 ret17v.1 ret39v.1) = (0 : Int)))) && ((decide ((0 : Int) < (w.length : Int))) || (decide ((bAndNot .u32 n.2.2.2.1 ret17v.1) = (0 : Int))))) (by kernel_rfl) ⟨trivial, trivial⟩ h
    · have h := h
      refine adop_stepp [2, 3, 7, 9, 10, 30, 33] [3, 10, 33] (ob := True) (st' := (⟨76, [(2, [], .v (.c (.p (.sl (.int .i64)) w))), (3, [], .v (.c (.ptr 3 0))), (7, [], .v (.c (.p (.int .u32) ret17v.1))), (9, [], .v (.c (.p (.int .i64) ret17v.2.2))), (10, [], .v (.c (.ptr 10 0))), (30, [], .v (.c (.p (.sl (.pr (.int .i64) (.pr (.int .i64) (.int .i64)))) n.2.2.1))), (33, [], .v (.c (.own 33)))], [(3, [], .box [.p (.int .i64) n.1, .p (.int .i64) n.2.1, .p (.sl (.pr (.int .i64) (.pr (.int .i64) (.int .i64)))) n.2.2.1, .p (.int .u32) n.2.2.2.1, .p (.int .u32) n.2.2.2.2]), (10, [], .box [.p (.int .i64) n.1, .p (.int .i64) n.2.1, .p (.sl (.pr (.int .i64) (.pr (.int .i64) (.int .i64)))) n.2.2.1, .p (.int .u32) n.2.2.2.1, .p (.int .u32) n.2.2.2.2]), (33, [], .arr 41 (.pr (.int .i64) (.pr (.int .i64) (.int .i64))) [a])]⟩ : St)) rfl (by kernel_rfl) trivial ?_
      refine awd_one (i := 0) (by kernel_rfl) ?_
      refine adop_stepp [2, 3, 7, 9, 10, 28, 30, 33] [3, 10, 28, 33] (ob := True) (st' := (⟨76, [(2, [], .v (.c (.p (.sl (.int .i64)) w))), (3, [], .v (.c (.ptr 3 0))), (7, [], .v (.c (.p (.int .u32) ret17v.1))), (9, [], .v (.c (.p (.int .i64) ret17v.2.2))), (10, [], .v (.c (.ptr 10 0))), (28, [], .v (.c (.own 28))), (30, [], .v (.c (.p (.sl (.pr (.int .i64) (.pr (.int .i64) (.int .i64)))) n.2.2.1))), (33, [], .v (.c (.own 33)))], [(3, [], .box [.p (.int .i64) n.1, .p (.int .i64) n.2.1, .p (.sl (.pr (.int .i64) (.pr (.int .i64) (.int .i64)))) n.2.2.1, .p (.int .u32) n.2.2.2.1, .p (.int .u32) n.2.2.2.2]), (10, [], .box [.p (.int .i64) n.1, .p (.int .i64) n.2.1, .p (.sl (.pr (.int .i64) (.pr (.int .i64) (.int .i64)))) n.2.2.1, .p (.int .u32) n.2.2.2.1, .p (.int .u32) n.2.2.2.2]), (28, [], .arr 41 (.pr (.int .i64) (.pr (.int .i64) (.int .i64))) ([] : List (Int × (Int × Int)))), (33, [], .arr 41 (.pr (.int .i64) (.pr (.int .i64) (.int .i64))) [a])]⟩ : St)) rfl (by kernel_rfl) trivial ?_
      refine awd_one (i := 3) (by kernel_rfl) ?_
      obtain ⟨o1, h⟩ := h
      refine adop_stepp [2, 3, 7, 9, 10, 31, 33] [3, 10, 31, 33] (ob := roomN (([] : List (Int × (Int × Int))).length + n.2.2.1.length)) (st' := (⟨76, [(2, [], .v (.c (.p (.sl (.int .i64)) w))), (3, [], .v (.c (.ptr 3 0))), (7, [], .v (.c (.p (.int .u32) ret17v.1))), (9, [], .v (.c (.p (.int .i64) ret17v.2.2))), (10, [], .v (.c (.ptr 10 0))), (31, [], .v (.c (.own 31))), (33, [], .v (.c (.own 33)))], [(3, [], .box [.p (.int .i64) n.1, .p (.int .i64) n.2.1, .p (.sl (.pr (.int .i64) (.pr (.int .i64) (.int .i64)))) n.2.2.1, .p (.int .u32) n.2.2.2.1, .p (.int .u32) n.2.2.2.2]), (10, [], .box [.p (.int .i64) n.1, .p (.int .i64) n.2.1, .p (.sl (.pr (.int .i64) (.pr (.int .i64) (.int .i64)))) n.2.2.1, .p (.int .u32) n.2.2.2.1, .p (.int .u32) n.2.2.2.2]), (31, [], .arr 41 (.pr (.int .i64) (.pr (.int .i64) (.int .i64))) (([] : List (Int × (Int × Int))) ++ n.2.2.1)), (33, [], .arr 41 (.pr (.int .i64) (.pr (.int .i64) (.int .i64))) [a])]⟩ : St)) rfl (by kernel_rfl) o1 ?_
      refine awd_one (i := 6) (by kernel_rfl) ?_
      obtain ⟨o1, h⟩ := h
      refine adop_stepp [2, 3, 7, 9, 10, 34] [3, 10, 34] (ob := roomN ((([] : List (Int × (Int × Int))) ++ n.2.2.1).length + [a].length)) (st' := (⟨76, [(2, [], .v (.c (.p (.sl (.int .i64)) w))), (3, [], .v (.c (.ptr 3 0))), (7, [], .v (.c (.p (.int .u32) ret17v.1))), (9, [], .v (.c (.p (.int .i64) ret17v.2.2))), (10, [], .v (.c (.ptr 10 0))), (34, [], .v (.c (.own 34)))], [(3, [], .box [.p (.int .i64) n.1, .p (.int .i64) n.2.1, .p (.sl (.pr (.int .i64) (.pr (.int .i64) (.int .i64)))) n.2.2.1, .p (.int .u32) n.2.2.2.1, .p (.int .u32) n.2.2.2.2]), (10, [], .box [.p (.int .i64) n.1, .p (.int .i64) n.2.1, .p (.sl (.pr (.int .i64) (.pr (.int .i64) (.int .i64)))) n.2.2.1, .p (.int .u32) n.2.2.2.1, .p (.int .u32) n.2.2.2.2]), (34, [], .arr 41 (.pr (.int .i64) (.pr (.int .i64) (.int .i64))) ((([] : List (Int × (Int × Int))) ++ n.2.2.1) ++ [a]))]⟩ : St)) rfl (by kernel_rfl) o1 ?_
      refine awd_runp (by kernel_rfl) [7] [2, 3, 7, 9, 10, 34, 35] [3, 10, 34] (ob := (True ∧ True)) (done' := [7, 6, 3, 0, 5, 4, 2, 1]) (st' := (⟨76, [(2, [], .v (.c (.p (.sl (.int .i64)) w))), (3, [], .v (.c (.ptr 3 0))), (7, [], .v (.c (.p (.int .u32) ret17v.1))), (9, [], .v (.c (.p (.int .i64) ret17v.2.2))), (10, [], .v (.c (.ptr 10 0))), (34, [], .v (.c (.own 34))), (35, [], .v (.c (.ptr 10 2)))], [(3, [], .box [.p (.int .i64) n.1, .p (.int .i64) n.2.1, .p (.sl (.pr (.int .i64) (.pr (.int .i64) (.int .i64)))) n.2.2.1, .p (.int .u32) n.2.2.2.1, .p (.int .u32) n.2.2.2.2]), (10, [], .box [.p (.int .i64) n.1, .p (.int .i64) n.2.1, .p (.sl (.pr (.int .i64) (.pr (.int .i64) (.int .i64)))) n.2.2.1, .p (.int .u32) n.2.2.2.1, .p (.int .u32) n.2.2.2.2]), (34, [], .arr 41 (.pr (.int .i64) (.pr (.int .i64) (.int .i64))) ((([] : List (Int × (Int × Int))) ++ n.2.2.1) ++ [a]))]⟩ : St)) (by kernel_rfl) ⟨trivial, trivial⟩ ?_
      refine awd_one (i := 8) (by kernel_rfl) ?_
      refine adop_stepp [2, 3, 7, 9, 10] [3, 10, 34] (ob := True) (st' := (⟨76, [(2, [], .v (.c (.p (.sl (.int .i64)) w))), (3, [], .v (.c (.ptr 3 0))), (7, [], .v (.c (.p (.int .u32) ret17v.1))), (9, [], .v (.c (.p (.int .i64) ret17v.2.2))), (10, [], .v (.c (.ptr 10 0)))], [(3, [], .box [.p (.int .i64) n.1, .p (.int .i64) n.2.1, .p (.sl (.pr (.int .i64) (.pr (.int .i64) (.int .i64)))) n.2.2.1, .p (.int .u32) n.2.2.2.1, .p (.int .u32) n.2.2.2.2]), (10, [], .box [.p (.int .i64) n.1, .p (.int .i64) n.2.1, .own 34, .p (.int .u32) n.2.2.2.1, .p (.int .u32) n.2.2.2.2]), (34, [], .arr 41 (.pr (.int .i64) (.pr (.int .i64) (.int .i64))) ((([] : List (Int × (Int × Int))) ++ n.2.2.1) ++ [a]))]⟩ : St)) rfl (by kernel_rfl) trivial ?_
      refine awd_done (by kernel_rfl) ?_
      refine thenQ_n ?_
      refine aw_seq ?_
      refine aw_region ?_
      refine awl_runp 2 [2, 3, 7, 9, 10, 37, 38] [3, 10, 34] (ob := (True ∧ True ∧ True)) (st' := (⟨76, [(2, [], .v (.c (.p (.sl (.int .i64)) w))), (3, [], .v (.c (.ptr 3 0))), (7, [], .v (.c (.p (.int .u32) ret17v.1))), (9, [], .v (.c (.p (.int .i64) ret17v.2.2))), (10, [], .v (.c (.ptr 10 0))), (37, [], .v (.agg [.p (.int .i64) n.1, .p (.int .i64) n.2.1, .own 34, .p (.int .u32) n.2.2.2.1, .p (.int .u32) n.2.2.2.2])), (38, [], .v (.c (.p (.sl (.int .i64)) w)))], [(3, [], .box [.p (.int .i64) n.1, .p (.int .i64) n.2.1, .p (.sl (.pr (.int .i64) (.pr (.int .i64) (.int .i64)))) n.2.2.1, .p (.int .u32) n.2.2.2.1, .p (.int .u32) n.2.2.2.2]), (10, [], .box [.p (.int .i64) n.1, .p (.int .i64) n.2.1, .own 34, .p (.int .u32) n.2.2.2.1, .p (.int .u32) n.2.2.2.2]), (34, [], .arr 41 (.pr (.int .i64) (.pr (.int .i64) (.int .i64))) ((([] : List (Int × (Int × Int))) ++ n.2.2.1) ++ [a]))]⟩ : St)) (by kernel_rfl) ⟨trivial, trivial, trivial⟩ ?_
      refine awl_callk (p := []) (l := [toV1 (.pr (.int .i64) (.pr (.int .i64) (.pr (.sl (.pr (.int .i64) (.pr (.int .i64) (.int .i64)))) (.pr (.int .u32) (.int .u32))))) (n.1, (n.2.1, (((([] : List (Int × (Int × Int))) ++ n.2.2.1) ++ [a]), n.2.2.2))), toV1 (.sl (.int .i64)) w]) (cl := []) true [.d (.pr (.int .i64) (.pr (.int .i64) (.pr (.sl (.pr (.int .i64) (.pr (.int .i64) (.int .i64)))) (.pr (.int .u32) (.int .u32))))), .d (.sl (.int .i64))] [2, 3, 7, 9, 10, 39] [3, 10, 34] (fun (ret39v : Int × Bool × Int) => VC22 (n.1, (n.2.1, (((([] : List (Int × (Int × Int))) ++ n.2.2.1) ++ [a]), n.2.2.2))) (fun (ret44v : Int) => (((!decide (ret44v = (0 : Int))) = true → K ((decide (ret17v.2.2 = (0 : Int))) && (!decide (ret39v.2.2 = (0 : Int))))) ∧ ((!decide (ret44v = (0 : Int))) = false → K ((((decide (ret17v.2.2 = (0 : Int))) && (decide (ret39v.2.2 = (0 : Int)))) && (decide ((bAndNot .u32 ret17v.1 ret39v.1) = (0 : Int)))) && ((decide ((0 : Int) < (w.length : Int))) || (decide ((bAndNot .u32 n.2.2.2.1 ret17v.1) = (0 : Int))))))))) (fun ret39v => [toV1 (.int .u32) ret39v.1, toV1 .bool ret39v.2.1, toV1 (.int .i64) ret39v.2.2]) (fun ret39v => (⟨76, [(2, [], .v (.c (.p (.sl (.int .i64)) w))), (3, [], .v (.c (.ptr 3 0))), (7, [], .v (.c (.p (.int .u32) ret17v.1))), (9, [], .v (.c (.p (.int .i64) ret17v.2.2))), (10, [], .v (.c (.ptr 10 0))), (39, [], .tup [.c (.p (.int .u32) ret39v.1), .c (.p .bool ret39v.2.1), .c (.p (.int .i64) ret39v.2.2)])], [(3, [], .box [.p (.int .i64) n.1, .p (.int .i64) n.2.1, .p (.sl (.pr (.int .i64) (.pr (.int .i64) (.int .i64)))) n.2.2.1, .p (.int .u32) n.2.2.2.1, .p (.int .u32) n.2.2.2.2]), (10, [], .box [.p (.int .i64) n.1, .p (.int .i64) n.2.1, .own 34, .p (.int .u32) n.2.2.2.1, .p (.int .u32) n.2.2.2.2]), (34, [], .arr 41 (.pr (.int .i64) (.pr (.int .i64) (.int .i64))) ((([] : List (Int × (Int × Int))) ++ n.2.2.1) ++ [a]))]⟩ : St)) (by kernel_rfl) rfl (by kernel_rfl) rfl (by kernel_rfl) Try.call20 (by kernel_rfl) (fun ret39v => by kernel_rfl) (fun _ _ => rfl) (fun hg => link20 (n.1, (n.2.1, (((([] : List (Int × (Int × Int))) ++ n.2.2.1) ++ [a]), n.2.2.2))) w _ h) (fun hg => noF hg) (fun ret39v h => ?_)
      have h : VC22 (n.1, (n.2.1, (((([] : List (Int × (Int × Int))) ++ n.2.2.1) ++ [a]), n.2.2.2))) (fun (ret44v : Int) => (((!decide (ret44v = (0 : Int))) = true → K ((decide (ret17v.2.2 = (0 : Int))) && (!decide (ret39v.2.2 = (0 : Int))))) ∧ ((!decide (ret44v = (0 : Int))) = false → K ((((decide (ret17v.2.2 = (0 : Int))) && (decide (ret39v.2.2 = (0 : Int)))) && (decide ((bAndNot .u32 ret17v.1 ret39v.1) = (0 : Int)))) && ((decide ((0 : Int) < (w.length : Int))) || (decide ((bAndNot .u32 n.2.2.2.1 ret17v.1) = (0 : Int)))))))) := h
      refine awl_runp 7 [2, 3, 7, 9, 10, 11, 13] [3, 10, 34] (ob := (True ∧ True ∧ True ∧ True ∧ True ∧ True ∧ True ∧ True)) (st' := (⟨76, [(2, [], .v (.c (.p (.sl (.int .i64)) w))), (3, [], .v (.c (.ptr 3 0))), (7, [], .v (.c (.p (.int .u32) ret17v.1))), (9, [], .v (.c (.p (.int .i64) ret17v.2.2))), (10, [], .v (.c (.ptr 10 0))), (11, [], .v (.c (.p (.int .u32) ret39v.1))), (13, [], .v (.c (.p (.int .i64) ret39v.2.2)))], [(3, [], .box [.p (.int .i64) n.1, .p (.int .i64) n.2.1, .p (.sl (.pr (.int .i64) (.pr (.int .i64) (.int .i64)))) n.2.2.1, .p (.int .u32) n.2.2.2.1, .p (.int .u32) n.2.2.2.2]), (10, [], .box [.p (.int .i64) n.1, .p (.int .i64) n.2.1, .own 34, .p (.int .u32) n.2.2.2.1, .p (.int .u32) n.2.2.2.2]), (34, [], .arr 41 (.pr (.int .i64) (.pr (.int .i64) (.int .i64))) ((([] : List (Int × (Int × Int))) ++ n.2.2.1) ++ [a]))]⟩ : St)) (by kernel_rfl) ⟨trivial, trivial, trivial, trivial, trivial, trivial, trivial, trivial⟩ ?_
      refine awl_nil ?_
      refine thenQ_n ?_
      refine aw_seq ?_
      refine aw_seq ?_
      refine aw_region ?_
      refine awl_runp 1 [2, 3, 7, 9, 11, 13, 43] [3, 34] (ob := (True ∧ True)) (st' := (⟨76, [(2, [], .v (.c (.p (.sl (.int .i64)) w))), (3, [], .v (.c (.ptr 3 0))), (7, [], .v (.c (.p (.int .u32) ret17v.1))), (9, [], .v (.c (.p (.int .i64) ret17v.2.2))), (11, [], .v (.c (.p (.int .u32) ret39v.1))), (13, [], .v (.c (.p (.int .i64) ret39v.2.2))), (43, [], .v (.agg [.p (.int .i64) n.1, .p (.int .i64) n.2.1, .own 34, .p (.int .u32) n.2.2.2.1, .p (.int .u32) n.2.2.2.2]))], [(3, [], .box [.p (.int .i64) n.1, .p (.int .i64) n.2.1, .p (.sl (.pr (.int .i64) (.pr (.int .i64) (.int .i64)))) n.2.2.1, .p (.int .u32) n.2.2.2.1, .p (.int .u32) n.2.2.2.2]), (34, [], .arr 41 (.pr (.int .i64) (.pr (.int .i64) (.int .i64))) ((([] : List (Int × (Int × Int))) ++ n.2.2.1) ++ [a]))]⟩ : St)) (by kernel_rfl) ⟨trivial, trivial⟩ ?_
      refine awl_callk (p := []) (l := [toV1 (.pr (.int .i64) (.pr (.int .i64) (.pr (.sl (.pr (.int .i64) (.pr (.int .i64) (.int .i64)))) (.pr (.int .u32) (.int .u32))))) (n.1, (n.2.1, (((([] : List (Int × (Int × Int))) ++ n.2.2.1) ++ [a]), n.2.2.2)))]) (cl := []) true [.d (.pr (.int .i64) (.pr (.int .i64) (.pr (.sl (.pr (.int .i64) (.pr (.int .i64) (.int .i64)))) (.pr (.int .u32) (.int .u32)))))] [2, 3, 7, 9, 11, 13, 44] [3] (fun (ret44v : Int) => (((!decide (ret44v = (0 : Int))) = true → K ((decide (ret17v.2.2 = (0 : Int))) && (!decide (ret39v.2.2 = (0 : Int))))) ∧ ((!decide (ret44v = (0 : Int))) = false → K ((((decide (ret17v.2.2 = (0 : Int))) && (decide (ret39v.2.2 = (0 : Int)))) && (decide ((bAndNot .u32 ret17v.1 ret39v.1) = (0 : Int)))) && ((decide ((0 : Int) < (w.length : Int))) || (decide ((bAndNot .u32 n.2.2.2.1 ret17v.1) = (0 : Int)))))))) (fun ret44v => [toV1 (.int .i64) ret44v]) (fun ret44v => (⟨76, [(2, [], .v (.c (.p (.sl (.int .i64)) w))), (3, [], .v (.c (.ptr 3 0))), (7, [], .v (.c (.p (.int .u32) ret17v.1))), (9, [], .v (.c (.p (.int .i64) ret17v.2.2))), (11, [], .v (.c (.p (.int .u32) ret39v.1))), (13, [], .v (.c (.p (.int .i64) ret39v.2.2))), (44, [], .v (.c (.p (.int .i64) ret44v)))], [(3, [], .box [.p (.int .i64) n.1, .p (.int .i64) n.2.1, .p (.sl (.pr (.int .i64) (.pr (.int .i64) (.int .i64)))) n.2.2.1, .p (.int .u32) n.2.2.2.1, .p (.int .u32) n.2.2.2.2])]⟩ : St)) (by kernel_rfl) rfl (by kernel_rfl) rfl (by kernel_rfl) Try.call22 (by kernel_rfl) (fun ret44v => by kernel_rfl) (fun _ _ => rfl) (fun hg => link22 (n.1, (n.2.1, (((([] : List (Int × (Int × Int))) ++ n.2.2.1) ++ [a]), n.2.2.2))) _ h) (fun hg => noF hg) (fun ret44v h => ?_)
      have h : (((!decide (ret44v = (0 : Int))) = true → K ((decide (ret17v.2.2 = (0 : Int))) && (!decide (ret39v.2.2 = (0 : Int))))) ∧ ((!decide (ret44v = (0 : Int))) = false → K ((((decide (ret17v.2.2 = (0 : Int))) && (decide (ret39v.2.2 = (0 : Int)))) && (decide ((bAndNot .u32 ret17v.1 ret39v.1) = (0 : Int)))) && ((decide ((0 : Int) < (w.length : Int))) || (decide ((bAndNot .u32 n.2.2.2.1 ret17v.1) = (0 : Int))))))) := h
      refine awl_runp 1 [2, 3, 7, 9, 11, 13, 45] [3] (ob := (True ∧ True)) (st' := (⟨76, [(2, [], .v (.c (.p (.sl (.int .i64)) w))), (3, [], .v (.c (.ptr 3 0))), (7, [], .v (.c (.p (.int .u32) ret17v.1))), (9, [], .v (.c (.p (.int .i64) ret17v.2.2))), (11, [], .v (.c (.p (.int .u32) ret39v.1))), (13, [], .v (.c (.p (.int .i64) ret39v.2.2))), (45, [], .v (.c (.p .bool (!decide (ret44v = (0 : Int))))))], [(3, [], .box [.p (.int .i64) n.1, .p (.int .i64) n.2.1, .p (.sl (.pr (.int .i64) (.pr (.int .i64) (.int .i64)))) n.2.2.1, .p (.int .u32) n.2.2.2.1, .p (.int .u32) n.2.2.2.2])]⟩ : St)) (by kernel_rfl) ⟨trivial, trivial⟩ ?_
      refine awl_nil ?_
      refine thenQ_n ?_
      refine aw_cond (b := (!decide (ret44v = (0 : Int)))) (by kernel_rfl) (fun hb => ?_) (fun hb => ?_)
      · have h := h.1 hb
        refine aw_seq ?_
        refine aw_region ?_
        refine awl_runp 7 [6] [] (ob := (True ∧ True ∧ True ∧ ((decide (ret17v.2.2 = (0 : Int))) = true → True) ∧ ((decide (ret17v.2.2 = (0 : Int))) = true → True) ∧ True ∧ True ∧ True)) (st' := (⟨76, [(6, [], .v (.c (.p .bool ((decide (ret17v.2.2 = (0 : Int))) && (!decide (ret39v.2.2 = (0 : Int)))))))], []⟩ : St)) (by kernel_rfl) ⟨trivial, trivial, trivial, (fun _ => trivial), (fun _ => trivial), trivial, trivial, trivial⟩ ?_
        refine awl_nil ?_
        refine thenQ_n ?_
        refine aw_ret ?_
        refine thenQ_r ?_
        exact retQ_r (σ := Bool) (R := (fun y => [toV1 .bool y])) (ob := (True ∧ True)) ((decide (ret17v.2.2 = (0 : Int))) && (!decide (ret39v.2.2 = (0 : Int)))) (by kernel_rfl) ⟨trivial, trivial⟩ h
      · have h := h.2 hb
        refine aw_skip ?_
        refine thenQ_n ?_
        refine aw_seq ?_
        refine aw_region ?_
        refine awl_runp 25 [6] [] (ob := (True ∧ True ∧ True ∧ ((decide (ret17v.2.2 = (0 : Int))) = true → True) ∧ ((decide (ret17v.2.2 = (0 : Int))) = true → True) ∧ True ∧ True ∧ (((decide (ret17v.2.2 = (0 : Int))) && (decide (ret39v.2.2 = (0 : Int)))) = true → True) ∧ (((decide (ret17v.2.2 = (0 : Int))) && (decide (ret39v.2.2 = (0 : Int)))) = true → True) ∧ (((decide (ret17v.2.2 = (0 : Int))) && (decide (ret39v.2.2 = (0 : Int)))) = true → True) ∧ (((decide (ret17v.2.2 = (0 : Int))) && (decide (ret39v.2.2 = (0 : Int)))) = true → True) ∧ True ∧ True ∧ ((((decide (ret17v.2.2 = (0 : Int))) && (decide (ret39v.2.2 = (0 : Int)))) && (decide ((bAndNot .u32 ret17v.1 ret39v.1) = (0 : Int)))) = true → True) ∧ ((((decide (ret17v.2.2 = (0 : Int))) && (decide (ret39v.2.2 = (0 : Int)))) && (decide ((bAndNot .u32 ret17v.1 ret39v.1) = (0 : Int)))) = true → True) ∧ ((((decide (ret17v.2.2 = (0 : Int))) && (decide (ret39v.2.2 = (0 : Int)))) && (decide ((bAndNot .u32 ret17v.1 ret39v.1) = (0 : Int)))) = true → True) ∧ ((((decide (ret17v.2.2 = (0 : Int))) && (decide (ret39v.2.2 = (0 : Int)))) && (decide ((bAndNot .u32 ret17v.1 ret39v.1) = (0 : Int)))) = true → True) ∧ ((((decide (ret17v.2.2 = (0 : Int))) && (decide (ret39v.2.2 = (0 : Int)))) && (decide ((bAndNot .u32 ret17v.1 ret39v.1) = (0 : Int)))) = true → ((decide ((0 : Int) < (w.length : Int))) = false → True)) ∧ ((((decide (ret17v.2.2 = (0 : Int))) && (decide (ret39v.2.2 = (0 : Int)))) && (decide ((bAndNot .u32 ret17v.1 ret39v.1) = (0 : Int)))) = true → ((decide ((0 : Int) < (w.length : Int))) = false → True)) ∧ ((((decide (ret17v.2.2 = (0 : Int))) && (decide (ret39v.2.2 = (0 : Int)))) && (decide ((bAndNot .u32 ret17v.1 ret39v.1) = (0 : Int)))) = true → ((decide ((0 : Int) < (w.length : Int))) = false → True)) ∧ ((((decide (ret17v.2.2 = (0 : Int))) && (decide (ret39v.2.2 = (0 : Int)))) && (decide ((bAndNot .u32 ret17v.1 ret39v.1) = (0 : Int)))) = true → ((decide ((0 : Int) < (w.length : Int))) = false → True)) ∧ ((((decide (ret17v.2.2 = (0 : Int))) && (decide (ret39v.2.2 = (0 : Int)))) && (decide ((bAndNot .u32 ret17v.1 ret39v.1) = (0 : Int)))) = true → ((decide ((0 : Int) < (w.length : Int))) = false → True)) ∧ ((((decide (ret17v.2.2 = (0 : Int))) && (decide (ret39v.2.2 = (0 : Int)))) && (decide ((bAndNot .u32 ret17v.1 ret39v.1) = (0 : Int)))) = true → True) ∧ True ∧ True ∧ True)) (st' := (⟨76, [(6, [], .v (.c (.p .bool ((((decide (ret17v.2.2 = (0 : Int))) && (decide (ret39v.2.2 = (0 : Int)))) && (decide ((bAndNot .u32 ret17v.1 ret39v.1) = (0 : Int)))) && ((decide ((0 : Int) < (w.length : Int))) || (decide ((bAndNot .u32 n.2.2.2.1 ret17v.1) = (0 : Int))))))))], []⟩ : St)) (by kernel_rfl) ⟨trivial, trivial, trivial, (fun _ => trivial), (fun _ => trivial), trivial, trivial, (fun _ => trivial), (fun _ => trivial), (fun _ => trivial), (fun _ => trivial), trivial, trivial, (fun _ => trivial), (fun _ => trivial), (fun _ => trivial), (fun _ => trivial), (fun _ _ => trivial), (fun _ _ => trivial), (fun _ _ => trivial), (fun _ _ => trivial), (fun _ _ => trivial), (fun _ => trivial), trivial, trivial, trivial⟩ ?_
        refine awl_nil ?_
        refine thenQ_n ?_
        refine aw_ret ?_
        exact retQ_r (σ := Bool) (R := (fun y => [toV1 .bool y])) (ob := (True ∧ True)) ((((decide (ret17v.2.2 = (0 : Int))) && (decide (ret39v.2.2 = (0 : Int)))) && (decide ((bAndNot .u32 ret17v.1 ret39v.1) = (0 : Int)))) && ((decide ((0 : Int) < (w.length : Int))) || (decide ((bAndNot .u32 n.2.2.2.1 ret17v.1) = (0 : Int))))) (by kernel_rfl) ⟨trivial, trivial⟩ h

-- coppicer/net.Back
def VC23_k1 (n : (Int × (Int × ((List (Int × (Int × Int))) × (Int × Int))))) (K : (Int × (Int × ((List (Int × (Int × Int))) × (Int × Int)))) × Int → Prop) (l6102 : (List (Int × (Int × Int)))) : Prop :=
  K ((n.1, (n.2.1, (l6102, (n.2.2.2.2, n.2.2.2.1)))), (0 : Int))

def VC23_l1 (n : (Int × (Int × ((List (Int × (Int × Int))) × (Int × Int))))) (K : (Int × (Int × ((List (Int × (Int × Int))) × (Int × Int)))) × Int → Prop) (v26 : Int) (l6102 : (List (Int × (Int × Int)))) (X1 : Int × (List (Int × (Int × Int))) → Prop) : Prop :=
  (((decide (v26 < (n.2.2.1.length : Int))) = true → (inIdx v26 n.2.2.1.length ∧ (roomN (l6102.length + [((n.2.2.1.getD (v26).toNat ((0 : Int), ((0 : Int), (0 : Int)))).2.2, ((n.2.2.1.getD (v26).toNat ((0 : Int), ((0 : Int), (0 : Int)))).2.1, (n.2.2.1.getD (v26).toNat ((0 : Int), ((0 : Int), (0 : Int)))).1))].length) ∧ (InR (v26 + (1 : Int)) ∧ X1 ((v26 + (1 : Int)), (l6102 ++ [((n.2.2.1.getD (v26).toNat ((0 : Int), ((0 : Int), (0 : Int)))).2.2, ((n.2.2.1.getD (v26).toNat ((0 : Int), ((0 : Int), (0 : Int)))).2.1, (n.2.2.1.getD (v26).toNat ((0 : Int), ((0 : Int), (0 : Int)))).1))])))))) ∧ ((decide (v26 < (n.2.2.1.length : Int))) = false → VC23_k1 n K l6102))

def VC23 (n : (Int × (Int × ((List (Int × (Int × Int))) × (Int × Int))))) (K : (Int × (Int × ((List (Int × (Int × Int))) × (Int × Int)))) × Int → Prop) : Prop :=
  VC44 n (fun (ret9v : Int) => (((!decide (ret9v = (0 : Int))) = true → K (((0 : Int), ((0 : Int), (([] : (List (Int × (Int × Int)))), ((0 : Int), (0 : Int))))), ret9v)) ∧ ((!decide (ret9v = (0 : Int))) = false → Loop (σ := Int × (List (Int × (Int × Int)))) (fun s X => VC23_l1 n K s.1 s.2 X) ((0 : Int), ([] : List (Int × (Int × Int)))))))

set_option maxHeartbeats 4000000 in
theorem link23 (n : (Int × (Int × ((List (Int × (Int × Int))) × (Int × Int))))) (K : (Int × (Int × ((List (Int × (Int × Int))) × (Int × Int)))) × Int → Prop) (h : VC23 n K) : ACalls Try.prog 23 [toV1 (.pr (.int .i64) (.pr (.int .i64) (.pr (.sl (.pr (.int .i64) (.pr (.int .i64) (.int .i64)))) (.pr (.int .u32) (.int .u32))))) n] (fun res => ∃ y, res = (fun y => [toV1 (.pr (.int .i64) (.pr (.int .i64) (.pr (.sl (.pr (.int .i64) (.pr (.int .i64) (.int .i64)))) (.pr (.int .u32) (.int .u32))))) y.1, toV1 (.int .i64) y.2]) y ∧ K y) := by
  refine acalls_of_aw [(.pr (.int .i64) (.pr (.int .i64) (.pr (.sl (.pr (.int .i64) (.pr (.int .i64) (.int .i64)))) (.pr (.int .u32) (.int .u32))))), (.int .i64)] [.c 2 39, .t 3] Try.func23 rfl rfl rfl ?_
  unfold VC23 at h
  refine aw_seq ?_
  refine aw_region ?_
  refine awl_runp 3 [1, 2] [1, 2] (ob := (True ∧ True ∧ True ∧ True)) (st' := (⟨44, [(1, [], .v (.c (.ptr 1 0))), (2, [], .v (.c (.ptr 2 0)))], [(1, [], .box [.p (.int .i64) n.1, .p (.int .i64) n.2.1, .p (.sl (.pr (.int .i64) (.pr (.int .i64) (.int .i64)))) n.2.2.1, .p (.int .u32) n.2.2.2.1, .p (.int .u32) n.2.2.2.2]), (2, [], .box [.p (.int .i64) (0 : Int), .p (.int .i64) (0 : Int), .nils, .p (.int .u32) (0 : Int), .p (.int .u32) (0 : Int)])]⟩ : St)) (by kernel_rfl) ⟨trivial, trivial, trivial, trivial⟩ ?_
  refine awl_nil ?_
  refine thenQ_n ?_
  refine aw_seq ?_
  refine aw_seq ?_
  refine aw_region ?_
  refine awl_runp 1 [1, 2, 8] [1, 2] (ob := (True ∧ True)) (st' := (⟨44, [(1, [], .v (.c (.ptr 1 0))), (2, [], .v (.c (.ptr 2 0))), (8, [], .v (.agg [.p (.int .i64) n.1, .p (.int .i64) n.2.1, .p (.sl (.pr (.int .i64) (.pr (.int .i64) (.int .i64)))) n.2.2.1, .p (.int .u32) n.2.2.2.1, .p (.int .u32) n.2.2.2.2]))], [(1, [], .box [.p (.int .i64) n.1, .p (.int .i64) n.2.1, .p (.sl (.pr (.int .i64) (.pr (.int .i64) (.int .i64)))) n.2.2.1, .p (.int .u32) n.2.2.2.1, .p (.int .u32) n.2.2.2.2]), (2, [], .box [.p (.int .i64) (0 : Int), .p (.int .i64) (0 : Int), .nils, .p (.int .u32) (0 : Int), .p (.int .u32) (0 : Int)])]⟩ : St)) (by kernel_rfl) ⟨trivial, trivial⟩ ?_
  refine awl_callk (p := []) (l := [toV1 (.pr (.int .i64) (.pr (.int .i64) (.pr (.sl (.pr (.int .i64) (.pr (.int .i64) (.int .i64)))) (.pr (.int .u32) (.int .u32))))) n]) (cl := []) false [.d (.pr (.int .i64) (.pr (.int .i64) (.pr (.sl (.pr (.int .i64) (.pr (.int .i64) (.int .i64)))) (.pr (.int .u32) (.int .u32)))))] [1, 2, 9] [1, 2] (fun (ret9v : Int) => (((!decide (ret9v = (0 : Int))) = true → K (((0 : Int), ((0 : Int), (([] : (List (Int × (Int × Int)))), ((0 : Int), (0 : Int))))), ret9v)) ∧ ((!decide (ret9v = (0 : Int))) = false → Loop (σ := Int × (List (Int × (Int × Int)))) (fun s X => VC23_l1 n K s.1 s.2 X) ((0 : Int), ([] : List (Int × (Int × Int))))))) (fun ret9v => [toV1 (.int .i64) ret9v]) (fun ret9v => (⟨44, [(1, [], .v (.c (.ptr 1 0))), (2, [], .v (.c (.ptr 2 0))), (9, [], .v (.c (.p (.int .i64) ret9v)))], [(1, [], .box [.p (.int .i64) n.1, .p (.int .i64) n.2.1, .p (.sl (.pr (.int .i64) (.pr (.int .i64) (.int .i64)))) n.2.2.1, .p (.int .u32) n.2.2.2.1, .p (.int .u32) n.2.2.2.2]), (2, [], .box [.p (.int .i64) (0 : Int), .p (.int .i64) (0 : Int), .nils, .p (.int .u32) (0 : Int), .p (.int .u32) (0 : Int)])]⟩ : St)) (by kernel_rfl) rfl (by kernel_rfl) rfl (by kernel_rfl) Try.call44 (by kernel_rfl) (fun ret9v => by kernel_rfl) (fun e => by cases e) (fun hg => link44 n _ h) (fun hg => noF hg) (fun ret9v h => ?_)
  have h : (((!decide (ret9v = (0 : Int))) = true → K (((0 : Int), ((0 : Int), (([] : (List (Int × (Int × Int)))), ((0 : Int), (0 : Int))))), ret9v)) ∧ ((!decide (ret9v = (0 : Int))) = false → Loop (σ := Int × (List (Int × (Int × Int)))) (fun s X => VC23_l1 n K s.1 s.2 X) ((0 : Int), ([] : List (Int × (Int × Int)))))) := h
  refine awl_runp 1 [1, 2, 4] [1, 2] (ob := (True ∧ True)) (st' := (⟨44, [(1, [], .v (.c (.ptr 1 0))), (2, [], .v (.c (.ptr 2 0))), (4, [], .v (.c (.p (.int .i64) ret9v)))], [(1, [], .box [.p (.int .i64) n.1, .p (.int .i64) n.2.1, .p (.sl (.pr (.int .i64) (.pr (.int .i64) (.int .i64)))) n.2.2.1, .p (.int .u32) n.2.2.2.1, .p (.int .u32) n.2.2.2.2]), (2, [], .box [.p (.int .i64) (0 : Int), .p (.int .i64) (0 : Int), .nils, .p (.int .u32) (0 : Int), .p (.int .u32) (0 : Int)])]⟩ : St)) (by kernel_rfl) ⟨trivial, trivial⟩ ?_
  refine awl_nil ?_
  refine thenQ_n ?_
  refine aw_seq ?_
  refine aw_region ?_
  refine awl_runp 2 [1, 2, 4, 11] [1, 2] (ob := (True ∧ True ∧ True)) (st' := (⟨44, [(1, [], .v (.c (.ptr 1 0))), (2, [], .v (.c (.ptr 2 0))), (4, [], .v (.c (.p (.int .i64) ret9v))), (11, [], .v (.c (.p .bool (!decide (ret9v = (0 : Int))))))], [(1, [], .box [.p (.int .i64) n.1, .p (.int .i64) n.2.1, .p (.sl (.pr (.int .i64) (.pr (.int .i64) (.int .i64)))) n.2.2.1, .p (.int .u32) n.2.2.2.1, .p (.int .u32) n.2.2.2.2]), (2, [], .box [.p (.int .i64) (0 : Int), .p (.int .i64) (0 : Int), .nils, .p (.int .u32) (0 : Int), .p (.int .u32) (0 : Int)])]⟩ : St)) (by kernel_rfl) ⟨trivial, trivial, trivial⟩ ?_
  refine awl_nil ?_
  refine thenQ_n ?_
  refine aw_cond (b := (!decide (ret9v = (0 : Int)))) (by kernel_rfl) (fun hb => ?_) (fun hb => ?_)
  · have h := h.1 hb
    refine aw_seq ?_
    refine aw_region ?_
    refine awl_runp 4 [2, 3] [2] (ob := (True ∧ True ∧ True ∧ True ∧ True)) (st' := (⟨44, [(2, [], .v (.c (.ptr 2 0))), (3, [], .v (.c (.p (.int .i64) ret9v)))], [(2, [], .box [.p (.int .i64) (0 : Int), .p (.int .i64) (0 : Int), .nils, .p (.int .u32) (0 : Int), .p (.int .u32) (0 : Int)])]⟩ : St)) (by kernel_rfl) ⟨trivial, trivial, trivial, trivial, trivial⟩ ?_
    refine awl_nil ?_
    refine thenQ_n ?_
    refine aw_ret ?_
    refine thenQ_r ?_
    exact retQ_r (σ := (Int × (Int × ((List (Int × (Int × Int))) × (Int × Int)))) × Int) (R := (fun y => [toV1 (.pr (.int .i64) (.pr (.int .i64) (.pr (.sl (.pr (.int .i64) (.pr (.int .i64) (.int .i64)))) (.pr (.int .u32) (.int .u32))))) y.1, toV1 (.int .i64) y.2])) (ob := (True ∧ True ∧ True)) (((0 : Int), ((0 : Int), (([] : (List (Int × (Int × Int)))), ((0 : Int), (0 : Int))))), ret9v) (by kernel_rfl) ⟨trivial, trivial, trivial⟩ h
  · have h := h.2 hb
    refine aw_skip ?_
    refine thenQ_n ?_
    refine aw_seq ?_
    refine aw_region ?_
    refine awl_runp 11 [1, 2, 5] [1, 2, 5] (ob := (True ∧ True ∧ True ∧ True ∧ True ∧ True ∧ True ∧ True ∧ True ∧ True ∧ True ∧ True)) (st' := (⟨44, [(1, [], .v (.c (.ptr 1 0))), (2, [], .v (.c (.ptr 2 0))), (5, [], .v (.c (.ptr 5 0)))], [(1, [], .box [.p (.int .i64) n.1, .p (.int .i64) n.2.1, .p (.sl (.pr (.int .i64) (.pr (.int .i64) (.int .i64)))) n.2.2.1, .p (.int .u32) n.2.2.2.1, .p (.int .u32) n.2.2.2.2]), (2, [], .box [.p (.int .i64) (0 : Int), .p (.int .i64) (0 : Int), .nils, .p (.int .u32) (0 : Int), .p (.int .u32) (0 : Int)]), (5, [], .box [.p (.int .i64) n.1, .p (.int .i64) n.2.1, .nils, .p (.int .u32) n.2.2.2.2, .p (.int .u32) n.2.2.2.1])]⟩ : St)) (by kernel_rfl) ⟨trivial, trivial, trivial, trivial, trivial, trivial, trivial, trivial, trivial, trivial, trivial, trivial⟩ ?_
    refine awl_nil ?_
    refine thenQ_n ?_
    refine aw_seq ?_
    refine aw_seq ?_
    refine aw_region ?_
    refine awl_runp 4 [2, 5, 24, 25, 26] [2, 5] (ob := (True ∧ True ∧ True ∧ True ∧ True)) (st' := (⟨44, [(2, [], .v (.c (.ptr 2 0))), (5, [], .v (.c (.ptr 5 0))), (24, [], .v (.c (.p (.sl (.pr (.int .i64) (.pr (.int .i64) (.int .i64)))) n.2.2.1))), (25, [], .v (.c (.p (.int .i64) (n.2.2.1.length : Int)))), (26, [], .v (.c (.p (.int .i64) (0 : Int))))], [(2, [], .box [.p (.int .i64) (0 : Int), .p (.int .i64) (0 : Int), .nils, .p (.int .u32) (0 : Int), .p (.int .u32) (0 : Int)]), (5, [], .box [.p (.int .i64) n.1, .p (.int .i64) n.2.1, .nils, .p (.int .u32) n.2.2.2.2, .p (.int .u32) n.2.2.2.1])]⟩ : St)) (by kernel_rfl) ⟨trivial, trivial, trivial, trivial, trivial⟩ ?_
    refine awl_nil ?_
    refine thenQ_n ?_
    refine withJoin (σ := (List (Int × (Int × Int)))) (fun s => (⟨44, [(2, [], .v (.c (.ptr 2 0))), (5, [], .v (.c (.ptr 5 0)))], [(2, [], .box [.p (.int .i64) (0 : Int), .p (.int .i64) (0 : Int), .nils, .p (.int .u32) (0 : Int), .p (.int .u32) (0 : Int)]), (5, [], .box [.p (.int .i64) n.1, .p (.int .i64) n.2.1, .own 6102, .p (.int .u32) n.2.2.2.2, .p (.int .u32) n.2.2.2.1]), (6102, [], .arr 41 (.pr (.int .i64) (.pr (.int .i64) (.int .i64))) s)]⟩ : St)) (fun s => VC23_k1 n K s) (fun l6102 h => ?_) (fun rest1 => ?_)
    · have h : VC23_k1 n K l6102 := h
      unfold VC23_k1 at h
      refine thenQ_n ?_
      refine aw_seq ?_
      refine aw_region ?_
      refine awl_runp 3 [2, 3] [2, 6102] (ob := (True ∧ True ∧ True ∧ True)) (st' := (⟨44, [(2, [], .v (.c (.ptr 2 0))), (3, [], .v (.c (.p (.int .i64) (0 : Int))))], [(2, [], .box [.p (.int .i64) n.1, .p (.int .i64) n.2.1, .own 6102, .p (.int .u32) n.2.2.2.2, .p (.int .u32) n.2.2.2.1]), (6102, [], .arr 41 (.pr (.int .i64) (.pr (.int .i64) (.int .i64))) l6102)]⟩ : St)) (by kernel_rfl) ⟨trivial, trivial, trivial, trivial⟩ ?_
      refine awl_nil ?_
      refine thenQ_n ?_
      refine aw_conv [.freeze 6102] (st' := (⟨44, [(2, [], .v (.c (.ptr 2 0))), (3, [], .v (.c (.p (.int .i64) (0 : Int))))], [(2, [], .box [.p (.int .i64) n.1, .p (.int .i64) n.2.1, .p (.sl (.pr (.int .i64) (.pr (.int .i64) (.int .i64)))) l6102, .p (.int .u32) n.2.2.2.2, .p (.int .u32) n.2.2.2.1])]⟩ : St)) (by kernel_rfl) ?_
      refine aw_ret ?_
      exact retQ_r (σ := (Int × (Int × ((List (Int × (Int × Int))) × (Int × Int)))) × Int) (R := (fun y => [toV1 (.pr (.int .i64) (.pr (.int .i64) (.pr (.sl (.pr (.int .i64) (.pr (.int .i64) (.int .i64)))) (.pr (.int .u32) (.int .u32))))) y.1, toV1 (.int .i64) y.2])) (ob := (True ∧ True ∧ True)) ((n.1, (n.2.1, (l6102, (n.2.2.2.2, n.2.2.2.1)))), (0 : Int)) (by kernel_rfl) ⟨trivial, trivial, trivial⟩ h
    · refine aw_block ?_
      refine aw_conv [.nilOwnB 5 2 6102 41 (.pr (.int .i64) (.pr (.int .i64) (.int .i64))), .prune [2, 5, 24, 25, 26] [2, 5, 6102]] (st' := (⟨44, [(2, [], .v (.c (.ptr 2 0))), (5, [], .v (.c (.ptr 5 0))), (24, [], .v (.c (.p (.sl (.pr (.int .i64) (.pr (.int .i64) (.int .i64)))) n.2.2.1))), (25, [], .v (.c (.p (.int .i64) (n.2.2.1.length : Int)))), (26, [], .v (.c (.p (.int .i64) (0 : Int))))], [(2, [], .box [.p (.int .i64) (0 : Int), .p (.int .i64) (0 : Int), .nils, .p (.int .u32) (0 : Int), .p (.int .u32) (0 : Int)]), (5, [], .box [.p (.int .i64) n.1, .p (.int .i64) n.2.1, .own 6102, .p (.int .u32) n.2.2.2.2, .p (.int .u32) n.2.2.2.1]), (6102, [], .arr 41 (.pr (.int .i64) (.pr (.int .i64) (.int .i64))) ([] : List (Int × (Int × Int))))]⟩ : St)) (by kernel_rfl) ?_
      refine aw_loop (σ := Int × (List (Int × (Int × Int)))) (fun s => (⟨44, [(2, [], .v (.c (.ptr 2 0))), (5, [], .v (.c (.ptr 5 0))), (24, [], .v (.c (.p (.sl (.pr (.int .i64) (.pr (.int .i64) (.int .i64)))) n.2.2.1))), (25, [], .v (.c (.p (.int .i64) (n.2.2.1.length : Int)))), (26, [], .v (.c (.p (.int .i64) s.1)))], [(2, [], .box [.p (.int .i64) (0 : Int), .p (.int .i64) (0 : Int), .nils, .p (.int .u32) (0 : Int), .p (.int .u32) (0 : Int)]), (5, [], .box [.p (.int .i64) n.1, .p (.int .i64) n.2.1, .own 6102, .p (.int .u32) n.2.2.2.2, .p (.int .u32) n.2.2.2.1]), (6102, [], .arr 41 (.pr (.int .i64) (.pr (.int .i64) (.int .i64))) s.2)]⟩ : St)) (fun s X => VC23_l1 n K s.1 s.2 X) (s0 := ((0 : Int), ([] : List (Int × (Int × Int))))) (fun s X1 h => ?_) h
      obtain ⟨v26, l6102⟩ := s
      have h : VC23_l1 n K v26 l6102 X1 := h
      unfold VC23_l1 at h
      refine aw_seq ?_
      refine aw_region ?_
      refine awl_runp 1 [2, 5, 24, 25, 26, 27] [2, 5, 6102] (ob := (True ∧ True)) (st' := (⟨44, [(2, [], .v (.c (.ptr 2 0))), (5, [], .v (.c (.ptr 5 0))), (24, [], .v (.c (.p (.sl (.pr (.int .i64) (.pr (.int .i64) (.int .i64)))) n.2.2.1))), (25, [], .v (.c (.p (.int .i64) (n.2.2.1.length : Int)))), (26, [], .v (.c (.p (.int .i64) v26))), (27, [], .v (.c (.p .bool (decide (v26 < (n.2.2.1.length : Int))))))], [(2, [], .box [.p (.int .i64) (0 : Int), .p (.int .i64) (0 : Int), .nils, .p (.int .u32) (0 : Int), .p (.int .u32) (0 : Int)]), (5, [], .box [.p (.int .i64) n.1, .p (.int .i64) n.2.1, .own 6102, .p (.int .u32) n.2.2.2.2, .p (.int .u32) n.2.2.2.1]), (6102, [], .arr 41 (.pr (.int .i64) (.pr (.int .i64) (.int .i64))) l6102)]⟩ : St)) (by kernel_rfl) ⟨trivial, trivial⟩ ?_
      refine awl_nil ?_
      refine thenQ_n ?_
      refine aw_seq ?_
      refine aw_cond (b := (decide (v26 < (n.2.2.1.length : Int)))) (by kernel_rfl) (fun hb => ?_) (fun hb => ?_)
      · have h := h.1 hb
        refine aw_skip ?_
        refine thenQ_n ?_
        refine aw_seq ?_
        refine aw_block ?_
        refine aw_seq ?_
        refine aw_region ?_
        obtain ⟨o1, h⟩ := h
        refine awl_runp 4 [2, 5, 7, 24, 25, 26] [2, 5, 7, 6102] (ob := (inIdx v26 n.2.2.1.length ∧ True ∧ True ∧ True ∧ True)) (st' := (⟨44, [(2, [], .v (.c (.ptr 2 0))), (5, [], .v (.c (.ptr 5 0))), (7, [], .v (.c (.ptr 7 0))), (24, [], .v (.c (.p (.sl (.pr (.int .i64) (.pr (.int .i64) (.int .i64)))) n.2.2.1))), (25, [], .v (.c (.p (.int .i64) (n.2.2.1.length : Int)))), (26, [], .v (.c (.p (.int .i64) v26)))], [(2, [], .box [.p (.int .i64) (0 : Int), .p (.int .i64) (0 : Int), .nils, .p (.int .u32) (0 : Int), .p (.int .u32) (0 : Int)]), (5, [], .box [.p (.int .i64) n.1, .p (.int .i64) n.2.1, .own 6102, .p (.int .u32) n.2.2.2.2, .p (.int .u32) n.2.2.2.1]), (7, [], .box [.p (.int .i64) ((n.2.2.1.getD (v26).toNat ((0 : Int), ((0 : Int), (0 : Int)))).1), .p (.int .i64) ((n.2.2.1.getD (v26).toNat ((0 : Int), ((0 : Int), (0 : Int)))).2.1), .p (.int .i64) ((n.2.2.1.getD (v26).toNat ((0 : Int), ((0 : Int), (0 : Int)))).2.2)]), (6102, [], .arr 41 (.pr (.int .i64) (.pr (.int .i64) (.int .i64))) l6102)]⟩ : St)) (by kernel_rfl) ⟨o1, trivial, trivial, trivial, trivial⟩ ?_
        refine awl_nil ?_
        refine thenQ_n ?_
        refine aw_region ?_
        obtain ⟨o1, h⟩ := h
        refine awl_runp 13 [2, 5, 24, 25, 26] [2, 5, 40] (ob := (True ∧ True ∧ True ∧ True ∧ True ∧ True ∧ True ∧ True ∧ True ∧ True ∧ roomN (l6102.length + [((n.2.2.1.getD (v26).toNat ((0 : Int), ((0 : Int), (0 : Int)))).2.2, ((n.2.2.1.getD (v26).toNat ((0 : Int), ((0 : Int), (0 : Int)))).2.1, (n.2.2.1.getD (v26).toNat ((0 : Int), ((0 : Int), (0 : Int)))).1))].length) ∧ True ∧ True ∧ True)) (st' := (⟨44, [(2, [], .v (.c (.ptr 2 0))), (5, [], .v (.c (.ptr 5 0))), (24, [], .v (.c (.p (.sl (.pr (.int .i64) (.pr (.int .i64) (.int .i64)))) n.2.2.1))), (25, [], .v (.c (.p (.int .i64) (n.2.2.1.length : Int)))), (26, [], .v (.c (.p (.int .i64) v26)))], [(2, [], .box [.p (.int .i64) (0 : Int), .p (.int .i64) (0 : Int), .nils, .p (.int .u32) (0 : Int), .p (.int .u32) (0 : Int)]), (5, [], .box [.p (.int .i64) n.1, .p (.int .i64) n.2.1, .own 40, .p (.int .u32) n.2.2.2.2, .p (.int .u32) n.2.2.2.1]), (40, [], .arr 41 (.pr (.int .i64) (.pr (.int .i64) (.int .i64))) (l6102 ++ [((n.2.2.1.getD (v26).toNat ((0 : Int), ((0 : Int), (0 : Int)))).2.2, ((n.2.2.1.getD (v26).toNat ((0 : Int), ((0 : Int), (0 : Int)))).2.1, (n.2.2.1.getD (v26).toNat ((0 : Int), ((0 : Int), (0 : Int)))).1))]))]⟩ : St)) (by kernel_rfl) ⟨trivial, trivial, trivial, trivial, trivial, trivial, trivial, trivial, trivial, trivial, o1, trivial, trivial, trivial⟩ ?_
        refine awl_nil ?_
        refine blockQ_n ?_
        refine thenQ_n ?_
        refine aw_region ?_
        obtain ⟨o1, h⟩ := h
        refine awl_runp 2 [2, 5, 24, 25, 26] [2, 5, 40] (ob := (InR (v26 + (1 : Int)) ∧ True ∧ True)) (st' := (⟨44, [(2, [], .v (.c (.ptr 2 0))), (5, [], .v (.c (.ptr 5 0))), (24, [], .v (.c (.p (.sl (.pr (.int .i64) (.pr (.int .i64) (.int .i64)))) n.2.2.1))), (25, [], .v (.c (.p (.int .i64) (n.2.2.1.length : Int)))), (26, [], .v (.c (.p (.int .i64) (v26 + (1 : Int)))))], [(2, [], .box [.p (.int .i64) (0 : Int), .p (.int .i64) (0 : Int), .nils, .p (.int .u32) (0 : Int), .p (.int .u32) (0 : Int)]), (5, [], .box [.p (.int .i64) n.1, .p (.int .i64) n.2.1, .own 40, .p (.int .u32) n.2.2.2.2, .p (.int .u32) n.2.2.2.1]), (40, [], .arr 41 (.pr (.int .i64) (.pr (.int .i64) (.int .i64))) (l6102 ++ [((n.2.2.1.getD (v26).toNat ((0 : Int), ((0 : Int), (0 : Int)))).2.2, ((n.2.2.1.getD (v26).toNat ((0 : Int), ((0 : Int), (0 : Int)))).2.1, (n.2.2.1.getD (v26).toNat ((0 : Int), ((0 : Int), (0 : Int)))).1))]))]⟩ : St)) (by kernel_rfl) ⟨o1, trivial, trivial⟩ ?_
        refine awl_conv [.ren 40 20040, .ren 20040 6102] (st' := (⟨44, [(2, [], .v (.c (.ptr 2 0))), (5, [], .v (.c (.ptr 5 0))), (24, [], .v (.c (.p (.sl (.pr (.int .i64) (.pr (.int .i64) (.int .i64)))) n.2.2.1))), (25, [], .v (.c (.p (.int .i64) (n.2.2.1.length : Int)))), (26, [], .v (.c (.p (.int .i64) (v26 + (1 : Int)))))], [(2, [], .box [.p (.int .i64) (0 : Int), .p (.int .i64) (0 : Int), .nils, .p (.int .u32) (0 : Int), .p (.int .u32) (0 : Int)]), (5, [], .box [.p (.int .i64) n.1, .p (.int .i64) n.2.1, .own 6102, .p (.int .u32) n.2.2.2.2, .p (.int .u32) n.2.2.2.1]), (6102, [], .arr 41 (.pr (.int .i64) (.pr (.int .i64) (.int .i64))) (l6102 ++ [((n.2.2.1.getD (v26).toNat ((0 : Int), ((0 : Int), (0 : Int)))).2.2, ((n.2.2.1.getD (v26).toNat ((0 : Int), ((0 : Int), (0 : Int)))).2.1, (n.2.2.1.getD (v26).toNat ((0 : Int), ((0 : Int), (0 : Int)))).1))]))]⟩ : St)) (by kernel_rfl) ?_
        refine awl_nil ?_
        exact thenQ_n ⟨((v26 + (1 : Int)), (l6102 ++ [((n.2.2.1.getD (v26).toNat ((0 : Int), ((0 : Int), (0 : Int)))).2.2, ((n.2.2.1.getD (v26).toNat ((0 : Int), ((0 : Int), (0 : Int)))).2.1, (n.2.2.1.getD (v26).toNat ((0 : Int), ((0 : Int), (0 : Int)))).1))])), rfl, h⟩
      · have h := h.2 hb
        refine aw_conv [.prune [2, 5] [2, 5, 6102]] (st' := (⟨44, [(2, [], .v (.c (.ptr 2 0))), (5, [], .v (.c (.ptr 5 0)))], [(2, [], .box [.p (.int .i64) (0 : Int), .p (.int .i64) (0 : Int), .nils, .p (.int .u32) (0 : Int), .p (.int .u32) (0 : Int)]), (5, [], .box [.p (.int .i64) n.1, .p (.int .i64) n.2.1, .own 6102, .p (.int .u32) n.2.2.2.2, .p (.int .u32) n.2.2.2.1]), (6102, [], .arr 41 (.pr (.int .i64) (.pr (.int .i64) (.int .i64))) l6102)]⟩ : St)) (by kernel_rfl) ?_
        refine aw_exit ?_
        refine thenQ_x ?_
        refine thenQ_x ?_
        refine blockQ_hit ?_
        exact rest1 l6102 h

end Dec
