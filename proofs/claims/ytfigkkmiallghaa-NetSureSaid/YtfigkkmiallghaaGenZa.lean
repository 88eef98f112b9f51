/-
  Printed by dec2.py: of each function its plain demand, and that the demand gives the contract.
-/
import Derived.Test.YtfigkkmiallghaaProg
import Derived.Test.YtfigkkmiallghaaDecY
set_option linter.unusedVariables false
set_option linter.unusedSimpArgs false
set_option maxRecDepth 100000
namespace Dec
open Go Go.RowKit Go.Proofs

-- coppicer/net.Check
def VC44_k1 (n : (Int × (Int × ((List (Int × (Int × Int))) × (Int × Int))))) (K : Int → Prop) : Prop :=
  ((0 ≤ (bOr .u32 n.2.2.2.1 n.2.2.2.2) ∧ 0 ≤ n.1) ∧ (((!decide ((bShr .u32 (bOr .u32 n.2.2.2.1 n.2.2.2.2) n.1) = (0 : Int))) = true → K (4 : Int)) ∧ ((!decide ((bShr .u32 (bOr .u32 n.2.2.2.1 n.2.2.2.2) n.1) = (0 : Int))) = false → K (0 : Int))))

def VC44_l1 (n : (Int × (Int × ((List (Int × (Int × Int))) × (Int × Int))))) (K : Int → Prop) (v32 : Int) (X1 : Int → Prop) : Prop :=
  (((decide (v32 < (n.2.2.1.length : Int))) = true → (inIdx v32 n.2.2.1.length ∧ ((((((((decide ((n.2.2.1.getD (v32).toNat ((0 : Int), ((0 : Int), (0 : Int)))).1 < (0 : Int))) || (decide (n.1 ≤ (n.2.2.1.getD (v32).toNat ((0 : Int), ((0 : Int), (0 : Int)))).1))) || (decide ((n.2.2.1.getD (v32).toNat ((0 : Int), ((0 : Int), (0 : Int)))).2.2 < (0 : Int)))) || (decide (n.1 ≤ (n.2.2.1.getD (v32).toNat ((0 : Int), ((0 : Int), (0 : Int)))).2.2))) || (decide ((n.2.2.1.getD (v32).toNat ((0 : Int), ((0 : Int), (0 : Int)))).2.1 < (-1 : Int)))) || (decide (n.2.1 ≤ (n.2.2.1.getD (v32).toNat ((0 : Int), ((0 : Int), (0 : Int)))).2.1))) = true → K (2 : Int)) ∧ (((((((decide ((n.2.2.1.getD (v32).toNat ((0 : Int), ((0 : Int), (0 : Int)))).1 < (0 : Int))) || (decide (n.1 ≤ (n.2.2.1.getD (v32).toNat ((0 : Int), ((0 : Int), (0 : Int)))).1))) || (decide ((n.2.2.1.getD (v32).toNat ((0 : Int), ((0 : Int), (0 : Int)))).2.2 < (0 : Int)))) || (decide (n.1 ≤ (n.2.2.1.getD (v32).toNat ((0 : Int), ((0 : Int), (0 : Int)))).2.2))) || (decide ((n.2.2.1.getD (v32).toNat ((0 : Int), ((0 : Int), (0 : Int)))).2.1 < (-1 : Int)))) || (decide (n.2.1 ≤ (n.2.2.1.getD (v32).toNat ((0 : Int), ((0 : Int), (0 : Int)))).2.1))) = false → (InR (v32 + (1 : Int)) ∧ X1 (v32 + (1 : Int))))))) ∧ ((decide (v32 < (n.2.2.1.length : Int))) = false → VC44_k1 n K))

def VC44 (n : (Int × (Int × ((List (Int × (Int × Int))) × (Int × Int))))) (K : Int → Prop) : Prop :=
  (((((((decide (n.1 < (1 : Int))) || (decide ((7 : Int) < n.1))) || (decide (n.2.1 < (1 : Int)))) || (decide ((3 : Int) < n.2.1))) || (decide ((60 : Int) < (n.2.2.1.length : Int)))) = true → K (1 : Int)) ∧ ((((((decide (n.1 < (1 : Int))) || (decide ((7 : Int) < n.1))) || (decide (n.2.1 < (1 : Int)))) || (decide ((3 : Int) < n.2.1))) || (decide ((60 : Int) < (n.2.2.1.length : Int)))) = false → Loop (σ := Int) (fun s X => VC44_l1 n K s X) (0 : Int)))

set_option maxHeartbeats 4000000 in
theorem link44 (n : (Int × (Int × ((List (Int × (Int × Int))) × (Int × Int))))) (K : Int → Prop) (h : VC44 n K) : ACalls Try.prog 44 [toV1 (.pr (.int .i64) (.pr (.int .i64) (.pr (.sl (.pr (.int .i64) (.pr (.int .i64) (.int .i64)))) (.pr (.int .u32) (.int .u32))))) n] (fun res => ∃ y, res = (fun y => [toV1 (.int .i64) y]) y ∧ K y) := by
  refine acalls_of_aw [(.int .i64)] [.t 2] Try.func44 rfl rfl rfl ?_
  unfold VC44 at h
  refine aw_seq ?_
  refine aw_region ?_
  refine awl_runp 2 [1] [1] (ob := (True ∧ True ∧ True)) (st' := (⟨80, [(1, [], .v (.c (.ptr 1 0)))], [(1, [], .box [.p (.int .i64) n.1, .p (.int .i64) n.2.1, .p (.sl (.pr (.int .i64) (.pr (.int .i64) (.int .i64)))) n.2.2.1, .p (.int .u32) n.2.2.2.1, .p (.int .u32) n.2.2.2.2])]⟩ : St)) (by kernel_rfl) ⟨trivial, trivial, trivial⟩ ?_
  refine awl_nil ?_
  refine thenQ_n ?_
  refine aw_seq ?_
  refine aw_seq ?_
  refine aw_region ?_
  refine awl_runp 24 [1, 28] [1] (ob := (True ∧ True ∧ True ∧ True ∧ ((decide (n.1 < (1 : Int))) = false → True) ∧ ((decide (n.1 < (1 : Int))) = false → True) ∧ ((decide (n.1 < (1 : Int))) = false → True) ∧ True ∧ True ∧ (((decide (n.1 < (1 : Int))) || (decide ((7 : Int) < n.1))) = false → True) ∧ (((decide (n.1 < (1 : Int))) || (decide ((7 : Int) < n.1))) = false → True) ∧ (((decide (n.1 < (1 : Int))) || (decide ((7 : Int) < n.1))) = false → True) ∧ True ∧ True ∧ ((((decide (n.1 < (1 : Int))) || (decide ((7 : Int) < n.1))) || (decide (n.2.1 < (1 : Int)))) = false → True) ∧ ((((decide (n.1 < (1 : Int))) || (decide ((7 : Int) < n.1))) || (decide (n.2.1 < (1 : Int)))) = false → True) ∧ ((((decide (n.1 < (1 : Int))) || (decide ((7 : Int) < n.1))) || (decide (n.2.1 < (1 : Int)))) = false → True) ∧ True ∧ True ∧ (((((decide (n.1 < (1 : Int))) || (decide ((7 : Int) < n.1))) || (decide (n.2.1 < (1 : Int)))) || (decide ((3 : Int) < n.2.1))) = false → True) ∧ (((((decide (n.1 < (1 : Int))) || (decide ((7 : Int) < n.1))) || (decide (n.2.1 < (1 : Int)))) || (decide ((3 : Int) < n.2.1))) = false → True) ∧ (((((decide (n.1 < (1 : Int))) || (decide ((7 : Int) < n.1))) || (decide (n.2.1 < (1 : Int)))) || (decide ((3 : Int) < n.2.1))) = false → True) ∧ (((((decide (n.1 < (1 : Int))) || (decide ((7 : Int) < n.1))) || (decide (n.2.1 < (1 : Int)))) || (decide ((3 : Int) < n.2.1))) = false → True) ∧ True ∧ True)) (st' := (⟨80, [(1, [], .v (.c (.ptr 1 0))), (28, [], .v (.c (.p .bool (((((decide (n.1 < (1 : Int))) || (decide ((7 : Int) < n.1))) || (decide (n.2.1 < (1 : Int)))) || (decide ((3 : Int) < n.2.1))) || (decide ((60 : Int) < (n.2.2.1.length : Int)))))))], [(1, [], .box [.p (.int .i64) n.1, .p (.int .i64) n.2.1, .p (.sl (.pr (.int .i64) (.pr (.int .i64) (.int .i64)))) n.2.2.1, .p (.int .u32) n.2.2.2.1, .p (.int .u32) n.2.2.2.2])]⟩ : St)) (by kernel_rfl) ⟨trivial, trivial, trivial, trivial, (fun _ => trivial), (fun _ => trivial), (fun _ => trivial), trivial, trivial, (fun _ => trivial), (fun _ => trivial), (fun _ => trivial), trivial, trivial, (fun _ => trivial), (fun _ => trivial), (fun _ => trivial), trivial, trivial, (fun _ => trivial), (fun _ => trivial), (fun _ => trivial), (fun _ => trivial), trivial, trivial⟩ ?_
  refine awl_nil ?_
  refine thenQ_n ?_
  refine aw_cond (b := (((((decide (n.1 < (1 : Int))) || (decide ((7 : Int) < n.1))) || (decide (n.2.1 < (1 : Int)))) || (decide ((3 : Int) < n.2.1))) || (decide ((60 : Int) < (n.2.2.1.length : Int))))) (by kernel_rfl) (fun hb => ?_) (fun hb => ?_)
  · have h := h.1 hb
    refine aw_seq ?_
    refine aw_region ?_
    refine awl_runp 1 [2] [] (ob := (True ∧ True)) (st' := (⟨80, [(2, [], .v (.c (.p (.int .i64) (1 : Int))))], []⟩ : St)) (by kernel_rfl) ⟨trivial, trivial⟩ ?_
    refine awl_nil ?_
    refine thenQ_n ?_
    refine aw_ret ?_
    refine thenQ_r ?_
    exact retQ_r (σ := Int) (R := (fun y => [toV1 (.int .i64) y])) (ob := (True ∧ True)) (1 : Int) (by kernel_rfl) ⟨trivial, trivial⟩ h
  · have h := h.2 hb
    refine aw_skip ?_
    refine thenQ_n ?_
    refine aw_seq ?_
    refine aw_seq ?_
    refine aw_region ?_
    refine awl_runp 4 [1, 30, 31, 32] [1] (ob := (True ∧ True ∧ True ∧ True ∧ True)) (st' := (⟨80, [(1, [], .v (.c (.ptr 1 0))), (30, [], .v (.c (.p (.sl (.pr (.int .i64) (.pr (.int .i64) (.int .i64)))) n.2.2.1))), (31, [], .v (.c (.p (.int .i64) (n.2.2.1.length : Int)))), (32, [], .v (.c (.p (.int .i64) (0 : Int))))], [(1, [], .box [.p (.int .i64) n.1, .p (.int .i64) n.2.1, .p (.sl (.pr (.int .i64) (.pr (.int .i64) (.int .i64)))) n.2.2.1, .p (.int .u32) n.2.2.2.1, .p (.int .u32) n.2.2.2.2])]⟩ : St)) (by kernel_rfl) ⟨trivial, trivial, trivial, trivial, trivial⟩ ?_
    refine awl_nil ?_
    refine thenQ_n ?_
    refine withJoin (σ := Unit) (fun s => (⟨80, [(1, [], .v (.c (.ptr 1 0)))], [(1, [], .box [.p (.int .i64) n.1, .p (.int .i64) n.2.1, .p (.sl (.pr (.int .i64) (.pr (.int .i64) (.int .i64)))) n.2.2.1, .p (.int .u32) n.2.2.2.1, .p (.int .u32) n.2.2.2.2])]⟩ : St)) (fun s => VC44_k1 n K) (fun s h => ?_) (fun rest1 => ?_)
    · have h : VC44_k1 n K := h
      unfold VC44_k1 at h
      refine thenQ_n ?_
      refine aw_seq ?_
      refine aw_seq ?_
      refine aw_region ?_
      obtain ⟨o1, h⟩ := h
      refine awl_runp 9 [79] [] (ob := (True ∧ True ∧ True ∧ True ∧ True ∧ True ∧ True ∧ (0 ≤ (bOr .u32 n.2.2.2.1 n.2.2.2.2) ∧ 0 ≤ n.1) ∧ True ∧ True)) (st' := (⟨80, [(79, [], .v (.c (.p .bool (!decide ((bShr .u32 (bOr .u32 n.2.2.2.1 n.2.2.2.2) n.1) = (0 : Int))))))], []⟩ : St)) (by kernel_rfl) ⟨trivial, trivial, trivial, trivial, trivial, trivial, trivial, o1, trivial, trivial⟩ ?_
      refine awl_nil ?_
      refine thenQ_n ?_
      refine aw_cond (b := (!decide ((bShr .u32 (bOr .u32 n.2.2.2.1 n.2.2.2.2) n.1) = (0 : Int)))) (by kernel_rfl) (fun hb => ?_) (fun hb => ?_)
      · have h := h.1 hb
        refine aw_seq ?_
        refine aw_region ?_
        refine awl_runp 1 [2] [] (ob := (True ∧ True)) (st' := (⟨80, [(2, [], .v (.c (.p (.int .i64) (4 : Int))))], []⟩ : St)) (by kernel_rfl) ⟨trivial, trivial⟩ ?_
        refine awl_nil ?_
        refine thenQ_n ?_
        refine aw_ret ?_
        refine thenQ_r ?_
        exact retQ_r (σ := Int) (R := (fun y => [toV1 (.int .i64) y])) (ob := (True ∧ True)) (4 : Int) (by kernel_rfl) ⟨trivial, trivial⟩ h
      · have h := h.2 hb
        refine aw_skip ?_
        refine thenQ_n ?_
        refine aw_seq ?_
        refine aw_region ?_
        refine awl_runp 1 [2] [] (ob := (True ∧ True)) (st' := (⟨80, [(2, [], .v (.c (.p (.int .i64) (0 : Int))))], []⟩ : St)) (by kernel_rfl) ⟨trivial, trivial⟩ ?_
        refine awl_nil ?_
        refine thenQ_n ?_
        refine aw_ret ?_
        exact retQ_r (σ := Int) (R := (fun y => [toV1 (.int .i64) y])) (ob := (True ∧ True)) (0 : Int) (by kernel_rfl) ⟨trivial, trivial⟩ h
    · refine aw_block ?_
      refine aw_loop (σ := Int) (fun s => (⟨80, [(1, [], .v (.c (.ptr 1 0))), (30, [], .v (.c (.p (.sl (.pr (.int .i64) (.pr (.int .i64) (.int .i64)))) n.2.2.1))), (31, [], .v (.c (.p (.int .i64) (n.2.2.1.length : Int)))), (32, [], .v (.c (.p (.int .i64) s)))], [(1, [], .box [.p (.int .i64) n.1, .p (.int .i64) n.2.1, .p (.sl (.pr (.int .i64) (.pr (.int .i64) (.int .i64)))) n.2.2.1, .p (.int .u32) n.2.2.2.1, .p (.int .u32) n.2.2.2.2])]⟩ : St)) (fun s X => VC44_l1 n K s X) (s0 := (0 : Int)) (fun v32 X1 h => ?_) h
      have h : VC44_l1 n K v32 X1 := h
      unfold VC44_l1 at h
      refine aw_seq ?_
      refine aw_region ?_
      refine awl_runp 1 [1, 30, 31, 32, 33] [1] (ob := (True ∧ True)) (st' := (⟨80, [(1, [], .v (.c (.ptr 1 0))), (30, [], .v (.c (.p (.sl (.pr (.int .i64) (.pr (.int .i64) (.int .i64)))) n.2.2.1))), (31, [], .v (.c (.p (.int .i64) (n.2.2.1.length : Int)))), (32, [], .v (.c (.p (.int .i64) v32))), (33, [], .v (.c (.p .bool (decide (v32 < (n.2.2.1.length : Int))))))], [(1, [], .box [.p (.int .i64) n.1, .p (.int .i64) n.2.1, .p (.sl (.pr (.int .i64) (.pr (.int .i64) (.int .i64)))) n.2.2.1, .p (.int .u32) n.2.2.2.1, .p (.int .u32) n.2.2.2.2])]⟩ : St)) (by kernel_rfl) ⟨trivial, trivial⟩ ?_
      refine awl_nil ?_
      refine thenQ_n ?_
      refine aw_seq ?_
      refine aw_cond (b := (decide (v32 < (n.2.2.1.length : Int)))) (by kernel_rfl) (fun hb => ?_) (fun hb => ?_)
      · have h := h.1 hb
        refine aw_skip ?_
        refine thenQ_n ?_
        refine aw_seq ?_
        refine aw_block ?_
        refine aw_seq ?_
        refine aw_region ?_
        obtain ⟨o1, h⟩ := h
        refine awl_runp 4 [1, 4, 30, 31, 32] [1, 4] (ob := (inIdx v32 n.2.2.1.length ∧ True ∧ True ∧ True ∧ True)) (st' := (⟨80, [(1, [], .v (.c (.ptr 1 0))), (4, [], .v (.c (.ptr 4 0))), (30, [], .v (.c (.p (.sl (.pr (.int .i64) (.pr (.int .i64) (.int .i64)))) n.2.2.1))), (31, [], .v (.c (.p (.int .i64) (n.2.2.1.length : Int)))), (32, [], .v (.c (.p (.int .i64) v32)))], [(1, [], .box [.p (.int .i64) n.1, .p (.int .i64) n.2.1, .p (.sl (.pr (.int .i64) (.pr (.int .i64) (.int .i64)))) n.2.2.1, .p (.int .u32) n.2.2.2.1, .p (.int .u32) n.2.2.2.2]), (4, [], .box [.p (.int .i64) ((n.2.2.1.getD (v32).toNat ((0 : Int), ((0 : Int), (0 : Int)))).1), .p (.int .i64) ((n.2.2.1.getD (v32).toNat ((0 : Int), ((0 : Int), (0 : Int)))).2.1), .p (.int .i64) ((n.2.2.1.getD (v32).toNat ((0 : Int), ((0 : Int), (0 : Int)))).2.2)])]⟩ : St)) (by kernel_rfl) ⟨o1, trivial, trivial, trivial, trivial⟩ ?_
        refine awl_nil ?_
        refine thenQ_n ?_
        refine aw_seq ?_
        refine aw_region ?_
        refine awl_runp 34 [1, 30, 31, 32, 69] [1] (ob := (True ∧ True ∧ True ∧ True ∧ ((decide ((n.2.2.1.getD (v32).toNat ((0 : Int), ((0 : Int), (0 : Int)))).1 < (0 : Int))) = false → True) ∧ ((decide ((n.2.2.1.getD (v32).toNat ((0 : Int), ((0 : Int), (0 : Int)))).1 < (0 : Int))) = false → True) ∧ ((decide ((n.2.2.1.getD (v32).toNat ((0 : Int), ((0 : Int), (0 : Int)))).1 < (0 : Int))) = false → True) ∧ ((decide ((n.2.2.1.getD (v32).toNat ((0 : Int), ((0 : Int), (0 : Int)))).1 < (0 : Int))) = false → True) ∧ ((decide ((n.2.2.1.getD (v32).toNat ((0 : Int), ((0 : Int), (0 : Int)))).1 < (0 : Int))) = false → True) ∧ True ∧ True ∧ (((decide ((n.2.2.1.getD (v32).toNat ((0 : Int), ((0 : Int), (0 : Int)))).1 < (0 : Int))) || (decide (n.1 ≤ (n.2.2.1.getD (v32).toNat ((0 : Int), ((0 : Int), (0 : Int)))).1))) = false → True) ∧ (((decide ((n.2.2.1.getD (v32).toNat ((0 : Int), ((0 : Int), (0 : Int)))).1 < (0 : Int))) || (decide (n.1 ≤ (n.2.2.1.getD (v32).toNat ((0 : Int), ((0 : Int), (0 : Int)))).1))) = false → True) ∧ (((decide ((n.2.2.1.getD (v32).toNat ((0 : Int), ((0 : Int), (0 : Int)))).1 < (0 : Int))) || (decide (n.1 ≤ (n.2.2.1.getD (v32).toNat ((0 : Int), ((0 : Int), (0 : Int)))).1))) = false → True) ∧ True ∧ True ∧ ((((decide ((n.2.2.1.getD (v32).toNat ((0 : Int), ((0 : Int), (0 : Int)))).1 < (0 : Int))) || (decide (n.1 ≤ (n.2.2.1.getD (v32).toNat ((0 : Int), ((0 : Int), (0 : Int)))).1))) || (decide ((n.2.2.1.getD (v32).toNat ((0 : Int), ((0 : Int), (0 : Int)))).2.2 < (0 : Int)))) = false → True) ∧ ((((decide ((n.2.2.1.getD (v32).toNat ((0 : Int), ((0 : Int), (0 : Int)))).1 < (0 : Int))) || (decide (n.1 ≤ (n.2.2.1.getD (v32).toNat ((0 : Int), ((0 : Int), (0 : Int)))).1))) || (decide ((n.2.2.1.getD (v32).toNat ((0 : Int), ((0 : Int), (0 : Int)))).2.2 < (0 : Int)))) = false → True) ∧ ((((decide ((n.2.2.1.getD (v32).toNat ((0 : Int), ((0 : Int), (0 : Int)))).1 < (0 : Int))) || (decide (n.1 ≤ (n.2.2.1.getD (v32).toNat ((0 : Int), ((0 : Int), (0 : Int)))).1))) || (decide ((n.2.2.1.getD (v32).toNat ((0 : Int), ((0 : Int), (0 : Int)))).2.2 < (0 : Int)))) = false → True) ∧ ((((decide ((n.2.2.1.getD (v32).toNat ((0 : Int), ((0 : Int), (0 : Int)))).1 < (0 : Int))) || (decide (n.1 ≤ (n.2.2.1.getD (v32).toNat ((0 : Int), ((0 : Int), (0 : Int)))).1))) || (decide ((n.2.2.1.getD (v32).toNat ((0 : Int), ((0 : Int), (0 : Int)))).2.2 < (0 : Int)))) = false → True) ∧ ((((decide ((n.2.2.1.getD (v32).toNat ((0 : Int), ((0 : Int), (0 : Int)))).1 < (0 : Int))) || (decide (n.1 ≤ (n.2.2.1.getD (v32).toNat ((0 : Int), ((0 : Int), (0 : Int)))).1))) || (decide ((n.2.2.1.getD (v32).toNat ((0 : Int), ((0 : Int), (0 : Int)))).2.2 < (0 : Int)))) = false → True) ∧ True ∧ True ∧ (((((decide ((n.2.2.1.getD (v32).toNat ((0 : Int), ((0 : Int), (0 : Int)))).1 < (0 : Int))) || (decide (n.1 ≤ (n.2.2.1.getD (v32).toNat ((0 : Int), ((0 : Int), (0 : Int)))).1))) || (decide ((n.2.2.1.getD (v32).toNat ((0 : Int), ((0 : Int), (0 : Int)))).2.2 < (0 : Int)))) || (decide (n.1 ≤ (n.2.2.1.getD (v32).toNat ((0 : Int), ((0 : Int), (0 : Int)))).2.2))) = false → True) ∧ (((((decide ((n.2.2.1.getD (v32).toNat ((0 : Int), ((0 : Int), (0 : Int)))).1 < (0 : Int))) || (decide (n.1 ≤ (n.2.2.1.getD (v32).toNat ((0 : Int), ((0 : Int), (0 : Int)))).1))) || (decide ((n.2.2.1.getD (v32).toNat ((0 : Int), ((0 : Int), (0 : Int)))).2.2 < (0 : Int)))) || (decide (n.1 ≤ (n.2.2.1.getD (v32).toNat ((0 : Int), ((0 : Int), (0 : Int)))).2.2))) = false → True) ∧ (((((decide ((n.2.2.1.getD (v32).toNat ((0 : Int), ((0 : Int), (0 : Int)))).1 < (0 : Int))) || (decide (n.1 ≤ (n.2.2.1.getD (v32).toNat ((0 : Int), ((0 : Int), (0 : Int)))).1))) || (decide ((n.2.2.1.getD (v32).toNat ((0 : Int), ((0 : Int), (0 : Int)))).2.2 < (0 : Int)))) || (decide (n.1 ≤ (n.2.2.1.getD (v32).toNat ((0 : Int), ((0 : Int), (0 : Int)))).2.2))) = false → True) ∧ True ∧ True ∧ ((((((decide ((n.2.2.1.getD (v32).toNat ((0 : Int), ((0 : Int), (0 : Int)))).1 < (0 : Int))) || (decide (n.1 ≤ (n.2.2.1.getD (v32).toNat ((0 : Int), ((0 : Int), (0 : Int)))).1))) || (decide ((n.2.2.1.getD (v32).toNat ((0 : Int), ((0 : Int), (0 : Int)))).2.2 < (0 : Int)))) || (decide (n.1 ≤ (n.2.2.1.getD (v32).toNat ((0 : Int), ((0 : Int), (0 : Int)))).2.2))) || (decide ((n.2.2.1.getD (v32).toNat ((0 : Int), ((0 : Int), (0 : Int)))).2.1 < (-1 : Int)))) = false → True) ∧ ((((((decide ((n.2.2.1.getD (v32).toNat ((0 : Int), ((0 : Int), (0 : Int)))).1 < (0 : Int))) || (decide (n.1 ≤ (n.2.2.1.getD (v32).toNat ((0 : Int), ((0 : Int), (0 : Int)))).1))) || (decide ((n.2.2.1.getD (v32).toNat ((0 : Int), ((0 : Int), (0 : Int)))).2.2 < (0 : Int)))) || (decide (n.1 ≤ (n.2.2.1.getD (v32).toNat ((0 : Int), ((0 : Int), (0 : Int)))).2.2))) || (decide ((n.2.2.1.getD (v32).toNat ((0 : Int), ((0 : Int), (0 : Int)))).2.1 < (-1 : Int)))) = false → True) ∧ ((((((decide ((n.2.2.1.getD (v32).toNat ((0 : Int), ((0 : Int), (0 : Int)))).1 < (0 : Int))) || (decide (n.1 ≤ (n.2.2.1.getD (v32).toNat ((0 : Int), ((0 : Int), (0 : Int)))).1))) || (decide ((n.2.2.1.getD (v32).toNat ((0 : Int), ((0 : Int), (0 : Int)))).2.2 < (0 : Int)))) || (decide (n.1 ≤ (n.2.2.1.getD (v32).toNat ((0 : Int), ((0 : Int), (0 : Int)))).2.2))) || (decide ((n.2.2.1.getD (v32).toNat ((0 : Int), ((0 : Int), (0 : Int)))).2.1 < (-1 : Int)))) = false → True) ∧ ((((((decide ((n.2.2.1.getD (v32).toNat ((0 : Int), ((0 : Int), (0 : Int)))).1 < (0 : Int))) || (decide (n.1 ≤ (n.2.2.1.getD (v32).toNat ((0 : Int), ((0 : Int), (0 : Int)))).1))) || (decide ((n.2.2.1.getD (v32).toNat ((0 : Int), ((0 : Int), (0 : Int)))).2.2 < (0 : Int)))) || (decide (n.1 ≤ (n.2.2.1.getD (v32).toNat ((0 : Int), ((0 : Int), (0 : Int)))).2.2))) || (decide ((n.2.2.1.getD (v32).toNat ((0 : Int), ((0 : Int), (0 : Int)))).2.1 < (-1 : Int)))) = false → True) ∧ ((((((decide ((n.2.2.1.getD (v32).toNat ((0 : Int), ((0 : Int), (0 : Int)))).1 < (0 : Int))) || (decide (n.1 ≤ (n.2.2.1.getD (v32).toNat ((0 : Int), ((0 : Int), (0 : Int)))).1))) || (decide ((n.2.2.1.getD (v32).toNat ((0 : Int), ((0 : Int), (0 : Int)))).2.2 < (0 : Int)))) || (decide (n.1 ≤ (n.2.2.1.getD (v32).toNat ((0 : Int), ((0 : Int), (0 : Int)))).2.2))) || (decide ((n.2.2.1.getD (v32).toNat ((0 : Int), ((0 : Int), (0 : Int)))).2.1 < (-1 : Int)))) = false → True) ∧ True ∧ True)) (st' := (⟨80, [(1, [], .v (.c (.ptr 1 0))), (30, [], .v (.c (.p (.sl (.pr (.int .i64) (.pr (.int .i64) (.int .i64)))) n.2.2.1))), (31, [], .v (.c (.p (.int .i64) (n.2.2.1.length : Int)))), (32, [], .v (.c (.p (.int .i64) v32))), (69, [], .v (.c (.p .bool ((((((decide ((n.2.2.1.getD (v32).toNat ((0 : Int), ((0 : Int), (0 : Int)))).1 < (0 : Int))) || (decide (n.1 ≤ (n.2.2.1.getD (v32).toNat ((0 : Int), ((0 : Int), (0 : Int)))).1))) || (decide ((n.2.2.1.getD (v32).toNat ((0 : Int), ((0 : Int), (0 : Int)))).2.2 < (0 : Int)))) || (decide (n.1 ≤ (n.2.2.1.getD (v32).toNat ((0 : Int), ((0 : Int), (0 : Int)))).2.2))) || (decide ((n.2.2.1.getD (v32).toNat ((0 : Int), ((0 : Int), (0 : Int)))).2.1 < (-1 : Int)))) || (decide (n.2.1 ≤ (n.2.2.1.getD (v32).toNat ((0 : Int), ((0 : Int), (0 : Int)))).2.1))))))], [(1, [], .box [.p (.int .i64) n.1, .p (.int .i64) n.2.1, .p (.sl (.pr (.int .i64) (.pr (.int .i64) (.int .i64)))) n.2.2.1, .p (.int .u32) n.2.2.2.1, .p (.int .u32) n.2.2.2.2])]⟩ : St)) (by kernel_rfl) ⟨trivial, trivial, trivial, trivial, (fun _ => trivial), (fun _ => trivial), (fun _ => trivial), (fun _ => trivial), (fun _ => trivial), trivial, trivial, (fun _ => trivial), (fun _ => trivial), (fun _ => trivial), trivial, trivial, (fun _ => trivial), (fun _ => trivial), (fun _ => trivial), (fun _ => trivial), (fun _ => trivial), trivial, trivial, (fun _ => trivial), (fun _ => trivial), (fun _ => trivial), trivial, trivial, (fun _ => trivial), (fun _ => trivial), (fun _ => trivial), (fun _ => trivial), (fun _ => trivial), trivial, trivial⟩ ?_
        refine awl_nil ?_
        refine thenQ_n ?_
        refine aw_cond (b := ((((((decide ((n.2.2.1.getD (v32).toNat ((0 : Int), ((0 : Int), (0 : Int)))).1 < (0 : Int))) || (decide (n.1 ≤ (n.2.2.1.getD (v32).toNat ((0 : Int), ((0 : Int), (0 : Int)))).1))) || (decide ((n.2.2.1.getD (v32).toNat ((0 : Int), ((0 : Int), (0 : Int)))).2.2 < (0 : Int)))) || (decide (n.1 ≤ (n.2.2.1.getD (v32).toNat ((0 : Int), ((0 : Int), (0 : Int)))).2.2))) || (decide ((n.2.2.1.getD (v32).toNat ((0 : Int), ((0 : Int), (0 : Int)))).2.1 < (-1 : Int)))) || (decide (n.2.1 ≤ (n.2.2.1.getD (v32).toNat ((0 : Int), ((0 : Int), (0 : Int)))).2.1)))) (by kernel_rfl) (fun hb => ?_) (fun hb => ?_)
        · have h := h.1 hb
          refine aw_seq ?_
          refine aw_region ?_
          refine awl_runp 1 [2] [] (ob := (True ∧ True)) (st' := (⟨80, [(2, [], .v (.c (.p (.int .i64) (2 : Int))))], []⟩ : St)) (by kernel_rfl) ⟨trivial, trivial⟩ ?_
          refine awl_nil ?_
          refine thenQ_n ?_
          refine aw_ret ?_
          refine blockQ_r ?_
          refine thenQ_r ?_
          refine thenQ_r ?_
          refine blockQ_r ?_
          refine thenQ_r ?_
          exact retQ_r (σ := Int) (R := (fun y => [toV1 (.int .i64) y])) (ob := (True ∧ True)) (2 : Int) (by kernel_rfl) ⟨trivial, trivial⟩ h
        · have h := h.2 hb
          refine aw_skip ?_
          refine blockQ_n ?_
          refine thenQ_n ?_
          refine aw_region ?_
          obtain ⟨o1, h⟩ := h
          refine awl_runp 2 [1, 30, 31, 32] [1] (ob := (InR (v32 + (1 : Int)) ∧ True ∧ True)) (st' := (⟨80, [(1, [], .v (.c (.ptr 1 0))), (30, [], .v (.c (.p (.sl (.pr (.int .i64) (.pr (.int .i64) (.int .i64)))) n.2.2.1))), (31, [], .v (.c (.p (.int .i64) (n.2.2.1.length : Int)))), (32, [], .v (.c (.p (.int .i64) (v32 + (1 : Int)))))], [(1, [], .box [.p (.int .i64) n.1, .p (.int .i64) n.2.1, .p (.sl (.pr (.int .i64) (.pr (.int .i64) (.int .i64)))) n.2.2.1, .p (.int .u32) n.2.2.2.1, .p (.int .u32) n.2.2.2.2])]⟩ : St)) (by kernel_rfl) ⟨o1, trivial, trivial⟩ ?_
          refine awl_nil ?_
          exact thenQ_n ⟨(v32 + (1 : Int)), rfl, h⟩
      · have h := h.2 hb
        refine aw_conv [.prune [1] [1]] (st' := (⟨80, [(1, [], .v (.c (.ptr 1 0)))], [(1, [], .box [.p (.int .i64) n.1, .p (.int .i64) n.2.1, .p (.sl (.pr (.int .i64) (.pr (.int .i64) (.int .i64)))) n.2.2.1, .p (.int .u32) n.2.2.2.1, .p (.int .u32) n.2.2.2.2])]⟩ : St)) (by kernel_rfl) ?_
        refine aw_exit ?_
        refine thenQ_x ?_
        refine thenQ_x ?_
        refine blockQ_hit ?_
        exact rest1 () h

-- coppicer/machine.within
def VC61 (n : Int) (low : Int) (high : Int) (K : Bool → Prop) : Prop :=
  K ((decide (low ≤ n)) && (decide (n ≤ high)))

set_option maxHeartbeats 4000000 in
theorem link61 (n : Int) (low : Int) (high : Int) (K : Bool → Prop) (h : VC61 n low high K) : ACalls Try.prog 61 [toV1 (.int .i64) n, toV1 (.int .i64) low, toV1 (.int .i64) high] (fun res => ∃ y, res = (fun y => [toV1 .bool y]) y ∧ K y) := by
  refine acalls_of_aw [.bool] [.t 6] Try.func61 rfl rfl rfl ?_
  unfold VC61 at h
  refine aw_seq ?_
  refine aw_region ?_
  refine awl_runp 1 [0, 1, 2] [] (ob := (True ∧ True)) (st' := (⟨15, [(0, [], .v (.c (.p (.int .i64) n))), (1, [], .v (.c (.p (.int .i64) low))), (2, [], .v (.c (.p (.int .i64) high)))], []⟩ : St)) (by kernel_rfl) ⟨trivial, trivial⟩ ?_
  refine awl_nil ?_
  refine thenQ_n ?_
  refine aw_seq ?_
  refine aw_region ?_
  refine awl_runp 9 [6] [] (ob := (True ∧ True ∧ True ∧ True ∧ ((decide (low ≤ n)) = true → True) ∧ ((decide (low ≤ n)) = true → True) ∧ ((decide (low ≤ n)) = true → True) ∧ True ∧ True ∧ True)) (st' := (⟨15, [(6, [], .v (.c (.p .bool ((decide (low ≤ n)) && (decide (n ≤ high))))))], []⟩ : St)) (by kernel_rfl) ⟨trivial, trivial, trivial, trivial, (fun _ => trivial), (fun _ => trivial), (fun _ => trivial), trivial, trivial, trivial⟩ ?_
  refine awl_nil ?_
  refine thenQ_n ?_
  refine aw_ret ?_
  exact retQ_r (σ := Bool) (R := (fun y => [toV1 .bool y])) (ob := (True ∧ True)) ((decide (low ≤ n)) && (decide (n ≤ high))) (by kernel_rfl) ⟨trivial, trivial⟩ h

-- coppicer/machine.Word$1
def VC66 (sv : Int) (a1 : Int) (K : Bool → Prop) : Prop :=
  (InR (a1 - (1 : Int)) ∧ VC61 sv (0 : Int) (a1 - (1 : Int)) (fun (ret7v : Bool) => K (!ret7v)))

set_option maxHeartbeats 4000000 in
theorem link66 (sv : Int) (a1 : Int) (K : Bool → Prop) (h : VC66 sv a1 K) : ACalls Try.prog 66 [toV1 (.int .i64) sv, .c (.ad (.int .i64) a1)] (fun res => ∃ y, res = (fun y => [toV1 .bool y]) y ∧ K y) := by
  refine acalls_of_aw [.bool] [.t 3] Try.func66 rfl rfl rfl ?_
  unfold VC66 at h
  refine aw_seq ?_
  refine aw_region ?_
  refine awl_runp 1 [0, 1] [] (ob := (True ∧ True)) (st' := (⟨9, [(0, [], .v (.c (.p (.int .i64) sv))), (1, [], .v (.c (.ad (.int .i64) a1)))], []⟩ : St)) (by kernel_rfl) ⟨trivial, trivial⟩ ?_
  refine awl_nil ?_
  refine thenQ_n ?_
  refine aw_seq ?_
  refine aw_region ?_
  obtain ⟨o1, h⟩ := h
  refine awl_runp 3 [4, 6] [] (ob := (True ∧ True ∧ InR (a1 - (1 : Int)) ∧ True)) (st' := (⟨9, [(4, [], .v (.c (.p (.int .i64) sv))), (6, [], .v (.c (.p (.int .i64) (a1 - (1 : Int)))))], []⟩ : St)) (by kernel_rfl) ⟨trivial, trivial, o1, trivial⟩ ?_
  refine awl_callk (p := []) (l := [toV1 (.int .i64) sv, toV1 (.int .i64) (0 : Int), toV1 (.int .i64) (a1 - (1 : Int))]) (cl := []) false [.d (.int .i64), .d (.int .i64), .d (.int .i64)] [7] [] (fun (ret7v : Bool) => K (!ret7v)) (fun ret7v => [toV1 .bool ret7v]) (fun ret7v => (⟨9, [(7, [], .v (.c (.p .bool ret7v)))], []⟩ : St)) (by kernel_rfl) rfl (by kernel_rfl) rfl (by kernel_rfl) Try.call61 (by kernel_rfl) (fun ret7v => by kernel_rfl) (fun e => by cases e) (fun hg => link61 sv (0 : Int) (a1 - (1 : Int)) _ h) (fun hg => noF hg) (fun ret7v h => ?_)
  have h : K (!ret7v) := h
  refine awl_runp 2 [3] [] (ob := (True ∧ True ∧ True)) (st' := (⟨9, [(3, [], .v (.c (.p .bool (!ret7v))))], []⟩ : St)) (by kernel_rfl) ⟨trivial, trivial, trivial⟩ ?_
  refine awl_nil ?_
  refine thenQ_n ?_
  refine aw_ret ?_
  exact retQ_r (σ := Bool) (R := (fun y => [toV1 .bool y])) (ob := (True ∧ True)) (!ret7v) (by kernel_rfl) ⟨trivial, trivial⟩ h

-- slices.IndexFunc[[]int,int]
def VC73_k1 (K : Int → Prop) : Prop :=
  K (-1 : Int)

def VC73_l1 (sv : (List Int)) (F1 : Int → (Bool → Prop) → Prop) (K : Int → Prop) (v8 : Int) (X1 : Int → Prop) : Prop :=
  (((decide (v8 < (sv.length : Int))) = true → (inIdx v8 sv.length ∧ F1 (sv.getD (v8).toNat (0 : Int)) (fun (ret16v : Bool) => ((ret16v = true → K v8) ∧ (ret16v = false → (InR (v8 + (1 : Int)) ∧ X1 (v8 + (1 : Int)))))))) ∧ ((decide (v8 < (sv.length : Int))) = false → VC73_k1 K))

def VC73 (sv : (List Int)) (F1 : Int → (Bool → Prop) → Prop) (K : Int → Prop) : Prop :=
  Loop (σ := Int) (fun s X => VC73_l1 sv F1 K s X) (0 : Int)

set_option maxHeartbeats 4000000 in
theorem link73 (sv : (List Int)) (fv1 : FuncId) (cv1 : List Dat) (F1 : Int → (Bool → Prop) → Prop) (hF1 : FnIs Try.prog fv1 cv1 (fun (x : Int) => [toV1 (.int .i64) x]) (fun (y : Bool) => [toV1 .bool y]) F1) (K : Int → Prop) (h : VC73 sv F1 K) : ACalls Try.prog 73 [toV1 (.sl (.int .i64)) sv, .c (.fn fv1 cv1)] (fun res => ∃ y, res = (fun y => [toV1 (.int .i64) y]) y ∧ K y) := by
  refine acalls_of_aw [(.int .i64)] [.t 4] Try.func73 rfl rfl rfl ?_
  unfold VC73 at h
  refine aw_seq ?_
  refine aw_region ?_
  refine awl_runp 1 [0, 1] [] (ob := (True ∧ True)) (st' := (⟨19, [(0, [], .v (.c (.p (.sl (.int .i64)) sv))), (1, [], .v (.c (.fn fv1 cv1)))], []⟩ : St)) (by kernel_rfl) ⟨trivial, trivial⟩ ?_
  refine awl_nil ?_
  refine thenQ_n ?_
  refine aw_seq ?_
  refine aw_seq ?_
  refine aw_region ?_
  refine awl_runp 3 [0, 1, 7, 8] [] (ob := (True ∧ True ∧ True ∧ True)) (st' := (⟨19, [(0, [], .v (.c (.p (.sl (.int .i64)) sv))), (1, [], .v (.c (.fn fv1 cv1))), (7, [], .v (.c (.p (.int .i64) (sv.length : Int)))), (8, [], .v (.c (.p (.int .i64) (0 : Int))))], []⟩ : St)) (by kernel_rfl) ⟨trivial, trivial, trivial, trivial⟩ ?_
  refine awl_nil ?_
  refine thenQ_n ?_
  refine withJoin (σ := Unit) (fun s => (⟨19, [], []⟩ : St)) (fun s => VC73_k1 K) (fun s h => ?_) (fun rest1 => ?_)
  · have h : VC73_k1 K := h
    unfold VC73_k1 at h
    refine thenQ_n ?_
    refine aw_seq ?_
    refine aw_region ?_
    refine awl_runp 1 [4] [] (ob := (True ∧ True)) (st' := (⟨19, [(4, [], .v (.c (.p (.int .i64) (-1 : Int))))], []⟩ : St)) (by kernel_rfl) ⟨trivial, trivial⟩ ?_
    refine awl_nil ?_
    refine thenQ_n ?_
    refine aw_ret ?_
    exact retQ_r (σ := Int) (R := (fun y => [toV1 (.int .i64) y])) (ob := (True ∧ True)) (-1 : Int) (by kernel_rfl) ⟨trivial, trivial⟩ h
  · refine aw_block ?_
    refine aw_loop (σ := Int) (fun s => (⟨19, [(0, [], .v (.c (.p (.sl (.int .i64)) sv))), (1, [], .v (.c (.fn fv1 cv1))), (7, [], .v (.c (.p (.int .i64) (sv.length : Int)))), (8, [], .v (.c (.p (.int .i64) s)))], []⟩ : St)) (fun s X => VC73_l1 sv F1 K s X) (s0 := (0 : Int)) (fun v8 X1 h => ?_) h
    have h : VC73_l1 sv F1 K v8 X1 := h
    unfold VC73_l1 at h
    refine aw_seq ?_
    refine aw_region ?_
    refine awl_runp 1 [0, 1, 7, 8, 9] [] (ob := (True ∧ True)) (st' := (⟨19, [(0, [], .v (.c (.p (.sl (.int .i64)) sv))), (1, [], .v (.c (.fn fv1 cv1))), (7, [], .v (.c (.p (.int .i64) (sv.length : Int)))), (8, [], .v (.c (.p (.int .i64) v8))), (9, [], .v (.c (.p .bool (decide (v8 < (sv.length : Int))))))], []⟩ : St)) (by kernel_rfl) ⟨trivial, trivial⟩ ?_
    refine awl_nil ?_
    refine thenQ_n ?_
    refine aw_seq ?_
    refine aw_cond (b := (decide (v8 < (sv.length : Int)))) (by kernel_rfl) (fun hb => ?_) (fun hb => ?_)
    · have h := h.1 hb
      refine aw_skip ?_
      refine thenQ_n ?_
      refine aw_seq ?_
      refine aw_block ?_
      refine aw_seq ?_
      refine aw_region ?_
      refine awl_runp 2 [0, 1, 5, 7, 8] [] (ob := (True ∧ True ∧ True)) (st' := (⟨19, [(0, [], .v (.c (.p (.sl (.int .i64)) sv))), (1, [], .v (.c (.fn fv1 cv1))), (5, [], .v (.c (.p (.int .i64) v8))), (7, [], .v (.c (.p (.int .i64) (sv.length : Int)))), (8, [], .v (.c (.p (.int .i64) v8)))], []⟩ : St)) (by kernel_rfl) ⟨trivial, trivial, trivial⟩ ?_
      refine awl_nil ?_
      refine thenQ_n ?_
      refine aw_seq ?_
      refine aw_region ?_
      obtain ⟨o1, h⟩ := h
      refine awl_runp 5 [0, 1, 5, 7, 8, 11, 15] [] (ob := (True ∧ True ∧ True ∧ inIdx v8 sv.length ∧ True ∧ True)) (st' := (⟨19, [(0, [], .v (.c (.p (.sl (.int .i64)) sv))), (1, [], .v (.c (.fn fv1 cv1))), (5, [], .v (.c (.p (.int .i64) v8))), (7, [], .v (.c (.p (.int .i64) (sv.length : Int)))), (8, [], .v (.c (.p (.int .i64) v8))), (11, [], .v (.c (.fn fv1 cv1))), (15, [], .v (.c (.p (.int .i64) (sv.getD (v8).toNat (0 : Int)))))], []⟩ : St)) (by kernel_rfl) ⟨trivial, trivial, trivial, o1, trivial, trivial⟩ ?_
      refine awl_callk (p := []) (l := [toV1 (.int .i64) (sv.getD (v8).toNat (0 : Int))]) false [.d (.int .i64)] [0, 1, 5, 7, 8, 16] [] (fun (ret16v : Bool) => ((ret16v = true → K v8) ∧ (ret16v = false → (InR (v8 + (1 : Int)) ∧ X1 (v8 + (1 : Int)))))) (fun ret16v => [toV1 .bool ret16v]) (fun ret16v => (⟨19, [(0, [], .v (.c (.p (.sl (.int .i64)) sv))), (1, [], .v (.c (.fn fv1 cv1))), (5, [], .v (.c (.p (.int .i64) v8))), (7, [], .v (.c (.p (.int .i64) (sv.length : Int)))), (8, [], .v (.c (.p (.int .i64) v8))), (16, [], .v (.c (.p .bool ret16v)))], []⟩ : St)) (by kernel_rfl) rfl (by kernel_rfl) rfl (by kernel_rfl) hF1.1 (by kernel_rfl) (fun ret16v => by kernel_rfl) (fun e => by cases e) (fun hg => hF1.2 (sv.getD (v8).toNat (0 : Int)) _ h) (fun hg => noF hg) (fun ret16v h => ?_)
      have h : ((ret16v = true → K v8) ∧ (ret16v = false → (InR (v8 + (1 : Int)) ∧ X1 (v8 + (1 : Int))))) := h
      refine awl_nil ?_
      refine thenQ_n ?_
      refine aw_cond (b := ret16v) (by kernel_rfl) (fun hb => ?_) (fun hb => ?_)
      · have h := h.1 hb
        refine aw_seq ?_
        refine aw_region ?_
        refine awl_runp 2 [4] [] (ob := (True ∧ True ∧ True)) (st' := (⟨19, [(4, [], .v (.c (.p (.int .i64) v8)))], []⟩ : St)) (by kernel_rfl) ⟨trivial, trivial, trivial⟩ ?_
        refine awl_nil ?_
        refine thenQ_n ?_
        refine aw_ret ?_
        refine blockQ_r ?_
        refine thenQ_r ?_
        refine thenQ_r ?_
        refine blockQ_r ?_
        refine thenQ_r ?_
        exact retQ_r (σ := Int) (R := (fun y => [toV1 (.int .i64) y])) (ob := (True ∧ True)) v8 (by kernel_rfl) ⟨trivial, trivial⟩ h
      · have h := h.2 hb
        refine aw_skip ?_
        refine blockQ_n ?_
        refine thenQ_n ?_
        refine aw_region ?_
        obtain ⟨o1, h⟩ := h
        refine awl_runp 2 [0, 1, 7, 8] [] (ob := (InR (v8 + (1 : Int)) ∧ True ∧ True)) (st' := (⟨19, [(0, [], .v (.c (.p (.sl (.int .i64)) sv))), (1, [], .v (.c (.fn fv1 cv1))), (7, [], .v (.c (.p (.int .i64) (sv.length : Int)))), (8, [], .v (.c (.p (.int .i64) (v8 + (1 : Int)))))], []⟩ : St)) (by kernel_rfl) ⟨o1, trivial, trivial⟩ ?_
        refine awl_nil ?_
        exact thenQ_n ⟨(v8 + (1 : Int)), rfl, h⟩
    · have h := h.2 hb
      refine aw_conv [.prune [] []] (st' := (⟨19, [], []⟩ : St)) (by kernel_rfl) ?_
      refine aw_exit ?_
      refine thenQ_x ?_
      refine thenQ_x ?_
      refine blockQ_hit ?_
      exact rest1 () h

-- slices.ContainsFunc[[]int,int]
def VC65 (sv : (List Int)) (F1 : Int → (Bool → Prop) → Prop) (K : Bool → Prop) : Prop :=
  VC73 sv F1 (fun (ret7v : Int) => K (decide ((0 : Int) ≤ ret7v)))

set_option maxHeartbeats 4000000 in
theorem link65 (sv : (List Int)) (fv1 : FuncId) (cv1 : List Dat) (F1 : Int → (Bool → Prop) → Prop) (hF1 : FnIs Try.prog fv1 cv1 (fun (x : Int) => [toV1 (.int .i64) x]) (fun (y : Bool) => [toV1 .bool y]) F1) (K : Bool → Prop) (h : VC65 sv F1 K) : ACalls Try.prog 65 [toV1 (.sl (.int .i64)) sv, .c (.fn fv1 cv1)] (fun res => ∃ y, res = (fun y => [toV1 .bool y]) y ∧ K y) := by
  refine acalls_of_aw [.bool] [.t 4] Try.func65 rfl rfl rfl ?_
  unfold VC65 at h
  refine aw_seq ?_
  refine aw_region ?_
  refine awl_runp 1 [0, 1] [] (ob := (True ∧ True)) (st' := (⟨9, [(0, [], .v (.c (.p (.sl (.int .i64)) sv))), (1, [], .v (.c (.fn fv1 cv1)))], []⟩ : St)) (by kernel_rfl) ⟨trivial, trivial⟩ ?_
  refine awl_nil ?_
  refine thenQ_n ?_
  refine aw_seq ?_
  refine aw_region ?_
  refine awl_runp 2 [5, 6] [] (ob := (True ∧ True ∧ True)) (st' := (⟨9, [(5, [], .v (.c (.p (.sl (.int .i64)) sv))), (6, [], .v (.c (.fn fv1 cv1)))], []⟩ : St)) (by kernel_rfl) ⟨trivial, trivial, trivial⟩ ?_
  refine awl_callk (p := []) (l := [toV1 (.sl (.int .i64)) sv, .c (.fn fv1 cv1)]) (cl := []) false [.d (.sl (.int .i64)), .fn] [7] [] (fun (ret7v : Int) => K (decide ((0 : Int) ≤ ret7v))) (fun ret7v => [toV1 (.int .i64) ret7v]) (fun ret7v => (⟨9, [(7, [], .v (.c (.p (.int .i64) ret7v)))], []⟩ : St)) (by kernel_rfl) rfl (by kernel_rfl) rfl (by kernel_rfl) Try.call73 (by kernel_rfl) (fun ret7v => by kernel_rfl) (fun e => by cases e) (fun hg => link73 sv fv1 cv1 F1 hF1 _ h) (fun hg => noF hg) (fun ret7v h => ?_)
  have h : K (decide ((0 : Int) ≤ ret7v)) := h
  refine awl_runp 2 [4] [] (ob := (True ∧ True ∧ True)) (st' := (⟨9, [(4, [], .v (.c (.p .bool (decide ((0 : Int) ≤ ret7v)))))], []⟩ : St)) (by kernel_rfl) ⟨trivial, trivial, trivial⟩ ?_
  refine awl_nil ?_
  refine thenQ_n ?_
  refine aw_ret ?_
  exact retQ_r (σ := Bool) (R := (fun y => [toV1 .bool y])) (ob := (True ∧ True)) (decide ((0 : Int) ≤ ret7v)) (by kernel_rfl) ⟨trivial, trivial⟩ h

-- coppicer/machine.Word
def VC41 (k : Int) (w : (List Int)) (K : Int → Prop) : Prop :=
  (((decide ((12 : Int) < (w.length : Int))) = true → K (1 : Int)) ∧ ((decide ((12 : Int) < (w.length : Int))) = false → VC65 w (fun (x : Int) (K : Bool → Prop) => VC66 x k K) (fun (ret10v : Bool) => ((ret10v = true → K (2 : Int)) ∧ (ret10v = false → K (0 : Int))))))

set_option maxHeartbeats 4000000 in
theorem link41 (k : Int) (w : (List Int)) (K : Int → Prop) (h : VC41 k w K) : ACalls Try.prog 41 [toV1 (.int .i64) k, toV1 (.sl (.int .i64)) w] (fun res => ∃ y, res = (fun y => [toV1 (.int .i64) y]) y ∧ K y) := by
  refine acalls_of_aw [(.int .i64)] [.t 4] Try.func41 rfl rfl rfl ?_
  unfold VC41 at h
  refine aw_seq ?_
  refine aw_region ?_
  refine awl_runp 2 [1, 2] [2] (ob := (True ∧ True ∧ True)) (st' := (⟨11, [(1, [], .v (.c (.p (.sl (.int .i64)) w))), (2, [], .v (.c (.ptr 2 0)))], [(2, [], .box [.p (.int .i64) k])]⟩ : St)) (by kernel_rfl) ⟨trivial, trivial, trivial⟩ ?_
  refine awl_nil ?_
  refine thenQ_n ?_
  refine aw_seq ?_
  refine aw_seq ?_
  refine aw_region ?_
  refine awl_runp 3 [1, 2, 7] [2] (ob := (True ∧ True ∧ True ∧ True)) (st' := (⟨11, [(1, [], .v (.c (.p (.sl (.int .i64)) w))), (2, [], .v (.c (.ptr 2 0))), (7, [], .v (.c (.p .bool (decide ((12 : Int) < (w.length : Int))))))], [(2, [], .box [.p (.int .i64) k])]⟩ : St)) (by kernel_rfl) ⟨trivial, trivial, trivial, trivial⟩ ?_
  refine awl_nil ?_
  refine thenQ_n ?_
  refine aw_cond (b := (decide ((12 : Int) < (w.length : Int)))) (by kernel_rfl) (fun hb => ?_) (fun hb => ?_)
  · have h := h.1 hb
    refine aw_seq ?_
    refine aw_region ?_
    refine awl_runp 1 [4] [] (ob := (True ∧ True)) (st' := (⟨11, [(4, [], .v (.c (.p (.int .i64) (1 : Int))))], []⟩ : St)) (by kernel_rfl) ⟨trivial, trivial⟩ ?_
    refine awl_nil ?_
    refine thenQ_n ?_
    refine aw_ret ?_
    refine thenQ_r ?_
    exact retQ_r (σ := Int) (R := (fun y => [toV1 (.int .i64) y])) (ob := (True ∧ True)) (1 : Int) (by kernel_rfl) ⟨trivial, trivial⟩ h
  · have h := h.2 hb
    refine aw_skip ?_
    refine thenQ_n ?_
    refine aw_seq ?_
    refine aw_seq ?_
    refine aw_region ?_
    refine awl_runp 1 [2, 8] [2] (ob := (True ∧ True)) (st' := (⟨11, [(2, [], .v (.c (.ptr 2 0))), (8, [], .v (.c (.p (.sl (.int .i64)) w)))], [(2, [], .box [.p (.int .i64) k])]⟩ : St)) (by kernel_rfl) ⟨trivial, trivial⟩ ?_
    refine awl_conv [.freezeB 2 (.int .i64)] (st' := (⟨11, [(2, [], .v (.c (.ad (.int .i64) k))), (8, [], .v (.c (.p (.sl (.int .i64)) w)))], []⟩ : St)) (by kernel_rfl) ?_
    refine awl_runp 1 [8, 9] [] (ob := (True ∧ True)) (st' := (⟨11, [(8, [], .v (.c (.p (.sl (.int .i64)) w))), (9, [], .v (.c (.fn 66 [(⟨(.int .i64), k⟩ : Dat)])))], []⟩ : St)) (by kernel_rfl) ⟨trivial, trivial⟩ ?_
    refine awl_callk (p := []) (l := [toV1 (.sl (.int .i64)) w, .c (.fn 66 [(⟨(.int .i64), k⟩ : Dat)])]) (cl := []) false [.d (.sl (.int .i64)), .fn] [10] [] (fun (ret10v : Bool) => ((ret10v = true → K (2 : Int)) ∧ (ret10v = false → K (0 : Int)))) (fun ret10v => [toV1 .bool ret10v]) (fun ret10v => (⟨11, [(10, [], .v (.c (.p .bool ret10v)))], []⟩ : St)) (by kernel_rfl) rfl (by kernel_rfl) rfl (by kernel_rfl) Try.call65 (by kernel_rfl) (fun ret10v => by kernel_rfl) (fun e => by cases e) (fun hg => link65 w 66 [(⟨(.int .i64), k⟩ : Dat)] (fun (x : Int) (K : Bool → Prop) => VC66 x k K) ⟨Try.call66, fun x K h => link66 x k K h⟩ _ h) (fun hg => noF hg) (fun ret10v h => ?_)
    have h : ((ret10v = true → K (2 : Int)) ∧ (ret10v = false → K (0 : Int))) := h
    refine awl_nil ?_
    refine thenQ_n ?_
    refine aw_cond (b := ret10v) (by kernel_rfl) (fun hb => ?_) (fun hb => ?_)
    · have h := h.1 hb
      refine aw_seq ?_
      refine aw_region ?_
      refine awl_runp 1 [4] [] (ob := (True ∧ True)) (st' := (⟨11, [(4, [], .v (.c (.p (.int .i64) (2 : Int))))], []⟩ : St)) (by kernel_rfl) ⟨trivial, trivial⟩ ?_
      refine awl_nil ?_
      refine thenQ_n ?_
      refine aw_ret ?_
      refine thenQ_r ?_
      exact retQ_r (σ := Int) (R := (fun y => [toV1 (.int .i64) y])) (ob := (True ∧ True)) (2 : Int) (by kernel_rfl) ⟨trivial, trivial⟩ h
    · have h := h.2 hb
      refine aw_skip ?_
      refine thenQ_n ?_
      refine aw_seq ?_
      refine aw_region ?_
      refine awl_runp 1 [4] [] (ob := (True ∧ True)) (st' := (⟨11, [(4, [], .v (.c (.p (.int .i64) (0 : Int))))], []⟩ : St)) (by kernel_rfl) ⟨trivial, trivial⟩ ?_
      refine awl_nil ?_
      refine thenQ_n ?_
      refine aw_ret ?_
      exact retQ_r (σ := Int) (R := (fun y => [toV1 (.int .i64) y])) (ob := (True ∧ True)) (0 : Int) (by kernel_rfl) ⟨trivial, trivial⟩ h

-- coppicer/machine.Has
def VC42 (setv : Int) (n : Int) (K : Bool → Prop) : Prop :=
  ((0 ≤ setv ∧ 0 ≤ n) ∧ K (decide ((bAnd .u32 (bShr .u32 setv n) (1 : Int)) = (1 : Int))))

set_option maxHeartbeats 4000000 in
theorem link42 (setv : Int) (n : Int) (K : Bool → Prop) (h : VC42 setv n K) : ACalls Try.prog 42 [toV1 (.int .u32) setv, toV1 (.int .i64) n] (fun res => ∃ y, res = (fun y => [toV1 .bool y]) y ∧ K y) := by
  refine acalls_of_aw [.bool] [.t 4] Try.func42 rfl rfl rfl ?_
  unfold VC42 at h
  refine aw_seq ?_
  refine aw_region ?_
  refine awl_runp 1 [0, 1] [] (ob := (True ∧ True)) (st' := (⟨10, [(0, [], .v (.c (.p (.int .u32) setv))), (1, [], .v (.c (.p (.int .i64) n)))], []⟩ : St)) (by kernel_rfl) ⟨trivial, trivial⟩ ?_
  refine awl_nil ?_
  refine thenQ_n ?_
  refine aw_seq ?_
  refine aw_region ?_
  obtain ⟨o1, h⟩ := h
  refine awl_runp 6 [4] [] (ob := (True ∧ True ∧ (0 ≤ setv ∧ 0 ≤ n) ∧ True ∧ True ∧ True ∧ True)) (st' := (⟨10, [(4, [], .v (.c (.p .bool (decide ((bAnd .u32 (bShr .u32 setv n) (1 : Int)) = (1 : Int))))))], []⟩ : St)) (by kernel_rfl) ⟨trivial, trivial, o1, trivial, trivial, trivial, trivial⟩ ?_
  refine awl_nil ?_
  refine thenQ_n ?_
  refine aw_ret ?_
  exact retQ_r (σ := Bool) (R := (fun y => [toV1 .bool y])) (ob := (True ∧ True)) (decide ((bAnd .u32 (bShr .u32 setv n) (1 : Int)) = (1 : Int))) (by kernel_rfl) ⟨trivial, trivial⟩ h

-- coppicer/net.still
def VC45_k1 (K : Int → Prop) (setv2 : Int) (X1 : Int → Prop) (setv3 : Int) : Prop :=
  (((decide (setv3 = setv2)) = true → K setv3) ∧ ((decide (setv3 = setv2)) = false → X1 setv3))

def VC45_k2 (v12 : Int) (X2 : Int × Int → Prop) (setv4 : Int) : Prop :=
  (InR (v12 + (1 : Int)) ∧ X2 (setv4, (v12 + (1 : Int))))

def VC45_l2 (n : (Int × (Int × ((List (Int × (Int × Int))) × (Int × Int))))) (K : Int → Prop) (setv2 : Int) (X1 : Int → Prop) (setv3 : Int) (v12 : Int) (X2 : Int × Int → Prop) : Prop :=
  (((decide (v12 < (n.2.2.1.length : Int))) = true → (inIdx v12 n.2.2.1.length ∧ gcall (α := Bool) (decide ((n.2.2.1.getD (v12).toNat ((0 : Int), ((0 : Int), (0 : Int)))).2.1 < (0 : Int))) (VC42 setv3 ((n.2.2.1.getD (v12).toNat ((0 : Int), ((0 : Int), (0 : Int)))).1)) false (fun (ret23v : Bool) => ((((decide ((n.2.2.1.getD (v12).toNat ((0 : Int), ((0 : Int), (0 : Int)))).2.1 < (0 : Int))) && ret23v) = true → (0 ≤ (n.2.2.1.getD (v12).toNat ((0 : Int), ((0 : Int), (0 : Int)))).2.2 ∧ VC45_k2 v12 X2 (bOr .u32 setv3 (bShl .u32 (1 : Int) ((n.2.2.1.getD (v12).toNat ((0 : Int), ((0 : Int), (0 : Int)))).2.2))))) ∧ (((decide ((n.2.2.1.getD (v12).toNat ((0 : Int), ((0 : Int), (0 : Int)))).2.1 < (0 : Int))) && ret23v) = false → VC45_k2 v12 X2 setv3))))) ∧ ((decide (v12 < (n.2.2.1.length : Int))) = false → VC45_k1 K setv2 X1 setv3))

def VC45_l1 (n : (Int × (Int × ((List (Int × (Int × Int))) × (Int × Int))))) (K : Int → Prop) (setv2 : Int) (X1 : Int → Prop) : Prop :=
  Loop (σ := Int × Int) (fun s X => VC45_l2 n K setv2 X1 s.1 s.2 X) (setv2, (0 : Int))

def VC45 (n : (Int × (Int × ((List (Int × (Int × Int))) × (Int × Int))))) (setv : Int) (K : Int → Prop) : Prop :=
  Loop (σ := Int) (fun s X => VC45_l1 n K s X) setv

set_option maxHeartbeats 4000000 in
theorem link45 (n : (Int × (Int × ((List (Int × (Int × Int))) × (Int × Int))))) (setv : Int) (K : Int → Prop) (h : VC45 n setv K) : ACalls Try.prog 45 [toV1 (.pr (.int .i64) (.pr (.int .i64) (.pr (.sl (.pr (.int .i64) (.pr (.int .i64) (.int .i64)))) (.pr (.int .u32) (.int .u32))))) n, toV1 (.int .u32) setv] (fun res => ∃ y, res = (fun y => [toV1 (.int .u32) y]) y ∧ K y) := by
  refine acalls_of_aw [(.int .u32)] [.t 4] Try.func45 rfl rfl rfl ?_
  unfold VC45 at h
  refine aw_seq ?_
  refine aw_region ?_
  refine awl_runp 2 [1, 2] [2] (ob := (True ∧ True ∧ True)) (st' := (⟨35, [(1, [], .v (.c (.p (.int .u32) setv))), (2, [], .v (.c (.ptr 2 0)))], [(2, [], .box [.p (.int .i64) n.1, .p (.int .i64) n.2.1, .p (.sl (.pr (.int .i64) (.pr (.int .i64) (.int .i64)))) n.2.2.1, .p (.int .u32) n.2.2.2.1, .p (.int .u32) n.2.2.2.2])]⟩ : St)) (by kernel_rfl) ⟨trivial, trivial, trivial⟩ ?_
  refine awl_nil ?_
  refine thenQ_n ?_
  refine aw_block ?_
  refine aw_loop (σ := Int) (fun s => (⟨35, [(1, [], .v (.c (.p (.int .u32) s))), (2, [], .v (.c (.ptr 2 0)))], [(2, [], .box [.p (.int .i64) n.1, .p (.int .i64) n.2.1, .p (.sl (.pr (.int .i64) (.pr (.int .i64) (.int .i64)))) n.2.2.1, .p (.int .u32) n.2.2.2.1, .p (.int .u32) n.2.2.2.2])]⟩ : St)) (fun s X => VC45_l1 n K s X) (s0 := setv) (fun setv2 X1 h => ?_) h
  have h : VC45_l1 n K setv2 X1 := h
  unfold VC45_l1 at h
  refine aw_block ?_
  refine aw_seq ?_
  refine aw_region ?_
  refine awl_runp 2 [1, 2, 5] [2] (ob := (True ∧ True ∧ True)) (st' := (⟨35, [(1, [], .v (.c (.p (.int .u32) setv2))), (2, [], .v (.c (.ptr 2 0))), (5, [], .v (.c (.p (.int .u32) setv2)))], [(2, [], .box [.p (.int .i64) n.1, .p (.int .i64) n.2.1, .p (.sl (.pr (.int .i64) (.pr (.int .i64) (.int .i64)))) n.2.2.1, .p (.int .u32) n.2.2.2.1, .p (.int .u32) n.2.2.2.2])]⟩ : St)) (by kernel_rfl) ⟨trivial, trivial, trivial⟩ ?_
  refine awl_nil ?_
  refine thenQ_n ?_
  refine aw_seq ?_
  refine aw_seq ?_
  refine aw_region ?_
  refine awl_runp 4 [1, 2, 5, 10, 11, 12] [2] (ob := (True ∧ True ∧ True ∧ True ∧ True)) (st' := (⟨35, [(1, [], .v (.c (.p (.int .u32) setv2))), (2, [], .v (.c (.ptr 2 0))), (5, [], .v (.c (.p (.int .u32) setv2))), (10, [], .v (.c (.p (.sl (.pr (.int .i64) (.pr (.int .i64) (.int .i64)))) n.2.2.1))), (11, [], .v (.c (.p (.int .i64) (n.2.2.1.length : Int)))), (12, [], .v (.c (.p (.int .i64) (0 : Int))))], [(2, [], .box [.p (.int .i64) n.1, .p (.int .i64) n.2.1, .p (.sl (.pr (.int .i64) (.pr (.int .i64) (.int .i64)))) n.2.2.1, .p (.int .u32) n.2.2.2.1, .p (.int .u32) n.2.2.2.2])]⟩ : St)) (by kernel_rfl) ⟨trivial, trivial, trivial, trivial, trivial⟩ ?_
  refine awl_nil ?_
  refine thenQ_n ?_
  refine withJoin (σ := Int) (fun s => (⟨35, [(1, [], .v (.c (.p (.int .u32) s))), (2, [], .v (.c (.ptr 2 0))), (5, [], .v (.c (.p (.int .u32) setv2)))], [(2, [], .box [.p (.int .i64) n.1, .p (.int .i64) n.2.1, .p (.sl (.pr (.int .i64) (.pr (.int .i64) (.int .i64)))) n.2.2.1, .p (.int .u32) n.2.2.2.1, .p (.int .u32) n.2.2.2.2])]⟩ : St)) (fun s => VC45_k1 K setv2 X1 s) (fun setv3 h => ?_) (fun rest1 => ?_)
  · have h : VC45_k1 K setv2 X1 setv3 := h
    unfold VC45_k1 at h
    refine thenQ_n ?_
    refine aw_seq ?_
    refine aw_region ?_
    refine awl_runp 3 [1, 2, 33] [2] (ob := (True ∧ True ∧ True ∧ True)) (st' := (⟨35, [(1, [], .v (.c (.p (.int .u32) setv3))), (2, [], .v (.c (.ptr 2 0))), (33, [], .v (.c (.p .bool (decide (setv3 = setv2)))))], [(2, [], .box [.p (.int .i64) n.1, .p (.int .i64) n.2.1, .p (.sl (.pr (.int .i64) (.pr (.int .i64) (.int .i64)))) n.2.2.1, .p (.int .u32) n.2.2.2.1, .p (.int .u32) n.2.2.2.2])]⟩ : St)) (by kernel_rfl) ⟨trivial, trivial, trivial, trivial⟩ ?_
    refine awl_nil ?_
    refine thenQ_n ?_
    refine aw_cond (b := (decide (setv3 = setv2))) (by kernel_rfl) (fun hb => ?_) (fun hb => ?_)
    · have h := h.1 hb
      refine aw_seq ?_
      refine aw_region ?_
      refine awl_runp 2 [4] [] (ob := (True ∧ True ∧ True)) (st' := (⟨35, [(4, [], .v (.c (.p (.int .u32) setv3)))], []⟩ : St)) (by kernel_rfl) ⟨trivial, trivial, trivial⟩ ?_
      refine awl_nil ?_
      refine thenQ_n ?_
      refine aw_ret ?_
      refine blockQ_r ?_
      refine thenQ_r ?_
      refine blockQ_r ?_
      exact retQ_r (σ := Int) (R := (fun y => [toV1 (.int .u32) y])) (ob := (True ∧ True)) setv3 (by kernel_rfl) ⟨trivial, trivial⟩ h
    · have h := h.2 hb
      refine aw_conv [.prune [1, 2] [2]] (st' := (⟨35, [(1, [], .v (.c (.p (.int .u32) setv3))), (2, [], .v (.c (.ptr 2 0)))], [(2, [], .box [.p (.int .i64) n.1, .p (.int .i64) n.2.1, .p (.sl (.pr (.int .i64) (.pr (.int .i64) (.int .i64)))) n.2.2.1, .p (.int .u32) n.2.2.2.1, .p (.int .u32) n.2.2.2.2])]⟩ : St)) (by kernel_rfl) ?_
      refine aw_skip ?_
      refine blockQ_n ?_
      exact thenQ_n ⟨setv3, rfl, h⟩
  · refine aw_block ?_
    refine aw_loop (σ := Int × Int) (fun s => (⟨35, [(1, [], .v (.c (.p (.int .u32) s.1))), (2, [], .v (.c (.ptr 2 0))), (5, [], .v (.c (.p (.int .u32) setv2))), (10, [], .v (.c (.p (.sl (.pr (.int .i64) (.pr (.int .i64) (.int .i64)))) n.2.2.1))), (11, [], .v (.c (.p (.int .i64) (n.2.2.1.length : Int)))), (12, [], .v (.c (.p (.int .i64) s.2)))], [(2, [], .box [.p (.int .i64) n.1, .p (.int .i64) n.2.1, .p (.sl (.pr (.int .i64) (.pr (.int .i64) (.int .i64)))) n.2.2.1, .p (.int .u32) n.2.2.2.1, .p (.int .u32) n.2.2.2.2])]⟩ : St)) (fun s X => VC45_l2 n K setv2 X1 s.1 s.2 X) (s0 := (setv2, (0 : Int))) (fun s X2 h => ?_) h
    obtain ⟨setv3, v12⟩ := s
    have h : VC45_l2 n K setv2 X1 setv3 v12 X2 := h
    unfold VC45_l2 at h
    refine aw_seq ?_
    refine aw_region ?_
    refine awl_runp 1 [1, 2, 5, 10, 11, 12, 13] [2] (ob := (True ∧ True)) (st' := (⟨35, [(1, [], .v (.c (.p (.int .u32) setv3))), (2, [], .v (.c (.ptr 2 0))), (5, [], .v (.c (.p (.int .u32) setv2))), (10, [], .v (.c (.p (.sl (.pr (.int .i64) (.pr (.int .i64) (.int .i64)))) n.2.2.1))), (11, [], .v (.c (.p (.int .i64) (n.2.2.1.length : Int)))), (12, [], .v (.c (.p (.int .i64) v12))), (13, [], .v (.c (.p .bool (decide (v12 < (n.2.2.1.length : Int))))))], [(2, [], .box [.p (.int .i64) n.1, .p (.int .i64) n.2.1, .p (.sl (.pr (.int .i64) (.pr (.int .i64) (.int .i64)))) n.2.2.1, .p (.int .u32) n.2.2.2.1, .p (.int .u32) n.2.2.2.2])]⟩ : St)) (by kernel_rfl) ⟨trivial, trivial⟩ ?_
    refine awl_nil ?_
    refine thenQ_n ?_
    refine aw_seq ?_
    refine aw_cond (b := (decide (v12 < (n.2.2.1.length : Int)))) (by kernel_rfl) (fun hb => ?_) (fun hb => ?_)
    · have h := h.1 hb
      refine aw_skip ?_
      refine thenQ_n ?_
      refine aw_seq ?_
      refine aw_block ?_
      refine aw_seq ?_
      refine aw_region ?_
      obtain ⟨o1, h⟩ := h
      refine awl_runp 4 [1, 2, 5, 7, 10, 11, 12] [2, 7] (ob := (inIdx v12 n.2.2.1.length ∧ True ∧ True ∧ True ∧ True)) (st' := (⟨35, [(1, [], .v (.c (.p (.int .u32) setv3))), (2, [], .v (.c (.ptr 2 0))), (5, [], .v (.c (.p (.int .u32) setv2))), (7, [], .v (.c (.ptr 7 0))), (10, [], .v (.c (.p (.sl (.pr (.int .i64) (.pr (.int .i64) (.int .i64)))) n.2.2.1))), (11, [], .v (.c (.p (.int .i64) (n.2.2.1.length : Int)))), (12, [], .v (.c (.p (.int .i64) v12)))], [(2, [], .box [.p (.int .i64) n.1, .p (.int .i64) n.2.1, .p (.sl (.pr (.int .i64) (.pr (.int .i64) (.int .i64)))) n.2.2.1, .p (.int .u32) n.2.2.2.1, .p (.int .u32) n.2.2.2.2]), (7, [], .box [.p (.int .i64) ((n.2.2.1.getD (v12).toNat ((0 : Int), ((0 : Int), (0 : Int)))).1), .p (.int .i64) ((n.2.2.1.getD (v12).toNat ((0 : Int), ((0 : Int), (0 : Int)))).2.1), .p (.int .i64) ((n.2.2.1.getD (v12).toNat ((0 : Int), ((0 : Int), (0 : Int)))).2.2)])]⟩ : St)) (by kernel_rfl) ⟨o1, trivial, trivial, trivial, trivial⟩ ?_
      refine awl_nil ?_
      refine thenQ_n ?_
      refine aw_seq ?_
      refine aw_region ?_
      refine awl_runp 7 [1, 2, 5, 7, 10, 11, 12, 19, 20, 22] [2, 7] (ob := (True ∧ True ∧ True ∧ True ∧ ((decide ((n.2.2.1.getD (v12).toNat ((0 : Int), ((0 : Int), (0 : Int)))).2.1 < (0 : Int))) = true → True) ∧ ((decide ((n.2.2.1.getD (v12).toNat ((0 : Int), ((0 : Int), (0 : Int)))).2.1 < (0 : Int))) = true → True) ∧ ((decide ((n.2.2.1.getD (v12).toNat ((0 : Int), ((0 : Int), (0 : Int)))).2.1 < (0 : Int))) = true → True) ∧ True)) (st' := (⟨35, [(1, [], .v (.c (.p (.int .u32) setv3))), (2, [], .v (.c (.ptr 2 0))), (5, [], .v (.c (.p (.int .u32) setv2))), (7, [], .v (.c (.ptr 7 0))), (10, [], .v (.c (.p (.sl (.pr (.int .i64) (.pr (.int .i64) (.int .i64)))) n.2.2.1))), (11, [], .v (.c (.p (.int .i64) (n.2.2.1.length : Int)))), (12, [], .v (.c (.p (.int .i64) v12))), (19, [], .v (.c (.p .bool (decide ((n.2.2.1.getD (v12).toNat ((0 : Int), ((0 : Int), (0 : Int)))).2.1 < (0 : Int)))))), (20, [(19, true)], .v (.c (.p (.int .u32) setv3))), (22, [(19, true)], .v (.c (.p (.int .i64) ((n.2.2.1.getD (v12).toNat ((0 : Int), ((0 : Int), (0 : Int)))).1))))], [(2, [], .box [.p (.int .i64) n.1, .p (.int .i64) n.2.1, .p (.sl (.pr (.int .i64) (.pr (.int .i64) (.int .i64)))) n.2.2.1, .p (.int .u32) n.2.2.2.1, .p (.int .u32) n.2.2.2.2]), (7, [], .box [.p (.int .i64) ((n.2.2.1.getD (v12).toNat ((0 : Int), ((0 : Int), (0 : Int)))).1), .p (.int .i64) ((n.2.2.1.getD (v12).toNat ((0 : Int), ((0 : Int), (0 : Int)))).2.1), .p (.int .i64) ((n.2.2.1.getD (v12).toNat ((0 : Int), ((0 : Int), (0 : Int)))).2.2)])]⟩ : St)) (by kernel_rfl) ⟨trivial, trivial, trivial, trivial, (fun _ => trivial), (fun _ => trivial), (fun _ => trivial), trivial⟩ ?_
      refine awl_callk (p := [(19, true)]) (l := [toV1 (.int .u32) setv3, toV1 (.int .i64) ((n.2.2.1.getD (v12).toNat ((0 : Int), ((0 : Int), (0 : Int)))).1)]) (cl := []) false [.d (.int .u32), .d (.int .i64)] [1, 2, 5, 7, 10, 11, 12, 19, 23] [2, 7] (fun (ret23v : Bool) => ((((decide ((n.2.2.1.getD (v12).toNat ((0 : Int), ((0 : Int), (0 : Int)))).2.1 < (0 : Int))) && ret23v) = true → (0 ≤ (n.2.2.1.getD (v12).toNat ((0 : Int), ((0 : Int), (0 : Int)))).2.2 ∧ VC45_k2 v12 X2 (bOr .u32 setv3 (bShl .u32 (1 : Int) ((n.2.2.1.getD (v12).toNat ((0 : Int), ((0 : Int), (0 : Int)))).2.2))))) ∧ (((decide ((n.2.2.1.getD (v12).toNat ((0 : Int), ((0 : Int), (0 : Int)))).2.1 < (0 : Int))) && ret23v) = false → VC45_k2 v12 X2 setv3))) (fun ret23v => [toV1 .bool ret23v]) (fun ret23v => (⟨35, [(1, [], .v (.c (.p (.int .u32) setv3))), (2, [], .v (.c (.ptr 2 0))), (5, [], .v (.c (.p (.int .u32) setv2))), (7, [], .v (.c (.ptr 7 0))), (10, [], .v (.c (.p (.sl (.pr (.int .i64) (.pr (.int .i64) (.int .i64)))) n.2.2.1))), (11, [], .v (.c (.p (.int .i64) (n.2.2.1.length : Int)))), (12, [], .v (.c (.p (.int .i64) v12))), (19, [], .v (.c (.p .bool (decide ((n.2.2.1.getD (v12).toNat ((0 : Int), ((0 : Int), (0 : Int)))).2.1 < (0 : Int)))))), (23, [(19, true)], .v (.c (.p .bool ret23v)))], [(2, [], .box [.p (.int .i64) n.1, .p (.int .i64) n.2.1, .p (.sl (.pr (.int .i64) (.pr (.int .i64) (.int .i64)))) n.2.2.1, .p (.int .u32) n.2.2.2.1, .p (.int .u32) n.2.2.2.2]), (7, [], .box [.p (.int .i64) ((n.2.2.1.getD (v12).toNat ((0 : Int), ((0 : Int), (0 : Int)))).1), .p (.int .i64) ((n.2.2.1.getD (v12).toNat ((0 : Int), ((0 : Int), (0 : Int)))).2.1), .p (.int .i64) ((n.2.2.1.getD (v12).toNat ((0 : Int), ((0 : Int), (0 : Int)))).2.2)])]⟩ : St)) (by kernel_rfl) rfl (by kernel_rfl) rfl (by kernel_rfl) Try.call42 (by kernel_rfl) (fun ret23v => by kernel_rfl) (fun e => by cases e) (fun hg => link42 setv3 ((n.2.2.1.getD (v12).toNat ((0 : Int), ((0 : Int), (0 : Int)))).1) _ (by have := gcall_T h (show (decide ((n.2.2.1.getD (v12).toNat ((0 : Int), ((0 : Int), (0 : Int)))).2.1 < (0 : Int))) = true from hg); exact this)) (fun hg => ⟨false, by have := gcall_F h (show (decide ((n.2.2.1.getD (v12).toNat ((0 : Int), ((0 : Int), (0 : Int)))).2.1 < (0 : Int))) = false from hg); exact this⟩) (fun ret23v h => ?_)
      have h : ((((decide ((n.2.2.1.getD (v12).toNat ((0 : Int), ((0 : Int), (0 : Int)))).2.1 < (0 : Int))) && ret23v) = true → (0 ≤ (n.2.2.1.getD (v12).toNat ((0 : Int), ((0 : Int), (0 : Int)))).2.2 ∧ VC45_k2 v12 X2 (bOr .u32 setv3 (bShl .u32 (1 : Int) ((n.2.2.1.getD (v12).toNat ((0 : Int), ((0 : Int), (0 : Int)))).2.2))))) ∧ (((decide ((n.2.2.1.getD (v12).toNat ((0 : Int), ((0 : Int), (0 : Int)))).2.1 < (0 : Int))) && ret23v) = false → VC45_k2 v12 X2 setv3)) := h
      refine awl_runp 1 [1, 2, 5, 7, 10, 11, 12, 24] [2, 7] (ob := (True ∧ True)) (st' := (⟨35, [(1, [], .v (.c (.p (.int .u32) setv3))), (2, [], .v (.c (.ptr 2 0))), (5, [], .v (.c (.p (.int .u32) setv2))), (7, [], .v (.c (.ptr 7 0))), (10, [], .v (.c (.p (.sl (.pr (.int .i64) (.pr (.int .i64) (.int .i64)))) n.2.2.1))), (11, [], .v (.c (.p (.int .i64) (n.2.2.1.length : Int)))), (12, [], .v (.c (.p (.int .i64) v12))), (24, [], .v (.c (.p .bool ((decide ((n.2.2.1.getD (v12).toNat ((0 : Int), ((0 : Int), (0 : Int)))).2.1 < (0 : Int))) && ret23v))))], [(2, [], .box [.p (.int .i64) n.1, .p (.int .i64) n.2.1, .p (.sl (.pr (.int .i64) (.pr (.int .i64) (.int .i64)))) n.2.2.1, .p (.int .u32) n.2.2.2.1, .p (.int .u32) n.2.2.2.2]), (7, [], .box [.p (.int .i64) ((n.2.2.1.getD (v12).toNat ((0 : Int), ((0 : Int), (0 : Int)))).1), .p (.int .i64) ((n.2.2.1.getD (v12).toNat ((0 : Int), ((0 : Int), (0 : Int)))).2.1), .p (.int .i64) ((n.2.2.1.getD (v12).toNat ((0 : Int), ((0 : Int), (0 : Int)))).2.2)])]⟩ : St)) (by kernel_rfl) ⟨trivial, trivial⟩ ?_
      refine awl_nil ?_
      refine thenQ_n ?_
      refine withJoin (σ := Int) (fun s => (⟨35, [(1, [], .v (.c (.p (.int .u32) s))), (2, [], .v (.c (.ptr 2 0))), (5, [], .v (.c (.p (.int .u32) setv2))), (10, [], .v (.c (.p (.sl (.pr (.int .i64) (.pr (.int .i64) (.int .i64)))) n.2.2.1))), (11, [], .v (.c (.p (.int .i64) (n.2.2.1.length : Int)))), (12, [], .v (.c (.p (.int .i64) v12)))], [(2, [], .box [.p (.int .i64) n.1, .p (.int .i64) n.2.1, .p (.sl (.pr (.int .i64) (.pr (.int .i64) (.int .i64)))) n.2.2.1, .p (.int .u32) n.2.2.2.1, .p (.int .u32) n.2.2.2.2])]⟩ : St)) (fun s => VC45_k2 v12 X2 s) (fun setv4 h => ?_) (fun rest2 => ?_)
      · have h : VC45_k2 v12 X2 setv4 := h
        unfold VC45_k2 at h
        refine blockQ_n ?_
        refine thenQ_n ?_
        refine aw_region ?_
        obtain ⟨o1, h⟩ := h
        refine awl_runp 2 [1, 2, 5, 10, 11, 12] [2] (ob := (InR (v12 + (1 : Int)) ∧ True ∧ True)) (st' := (⟨35, [(1, [], .v (.c (.p (.int .u32) setv4))), (2, [], .v (.c (.ptr 2 0))), (5, [], .v (.c (.p (.int .u32) setv2))), (10, [], .v (.c (.p (.sl (.pr (.int .i64) (.pr (.int .i64) (.int .i64)))) n.2.2.1))), (11, [], .v (.c (.p (.int .i64) (n.2.2.1.length : Int)))), (12, [], .v (.c (.p (.int .i64) (v12 + (1 : Int)))))], [(2, [], .box [.p (.int .i64) n.1, .p (.int .i64) n.2.1, .p (.sl (.pr (.int .i64) (.pr (.int .i64) (.int .i64)))) n.2.2.1, .p (.int .u32) n.2.2.2.1, .p (.int .u32) n.2.2.2.2])]⟩ : St)) (by kernel_rfl) ⟨o1, trivial, trivial⟩ ?_
        refine awl_nil ?_
        exact thenQ_n ⟨(setv4, (v12 + (1 : Int))), rfl, h⟩
      · refine aw_cond (b := ((decide ((n.2.2.1.getD (v12).toNat ((0 : Int), ((0 : Int), (0 : Int)))).2.1 < (0 : Int))) && ret23v)) (by kernel_rfl) (fun hb => ?_) (fun hb => ?_)
        · have h := h.1 hb
          refine aw_region ?_
          obtain ⟨o1, h⟩ := h
          refine awl_runp 6 [1, 2, 5, 10, 11, 12] [2] (ob := (True ∧ True ∧ True ∧ 0 ≤ (n.2.2.1.getD (v12).toNat ((0 : Int), ((0 : Int), (0 : Int)))).2.2 ∧ True ∧ True ∧ True)) (st' := (⟨35, [(1, [], .v (.c (.p (.int .u32) (bOr .u32 setv3 (bShl .u32 (1 : Int) ((n.2.2.1.getD (v12).toNat ((0 : Int), ((0 : Int), (0 : Int)))).2.2)))))), (2, [], .v (.c (.ptr 2 0))), (5, [], .v (.c (.p (.int .u32) setv2))), (10, [], .v (.c (.p (.sl (.pr (.int .i64) (.pr (.int .i64) (.int .i64)))) n.2.2.1))), (11, [], .v (.c (.p (.int .i64) (n.2.2.1.length : Int)))), (12, [], .v (.c (.p (.int .i64) v12)))], [(2, [], .box [.p (.int .i64) n.1, .p (.int .i64) n.2.1, .p (.sl (.pr (.int .i64) (.pr (.int .i64) (.int .i64)))) n.2.2.1, .p (.int .u32) n.2.2.2.1, .p (.int .u32) n.2.2.2.2])]⟩ : St)) (by kernel_rfl) ⟨trivial, trivial, trivial, o1, trivial, trivial, trivial⟩ ?_
          refine awl_nil ?_
          exact rest2 (bOr .u32 setv3 (bShl .u32 (1 : Int) ((n.2.2.1.getD (v12).toNat ((0 : Int), ((0 : Int), (0 : Int)))).2.2))) h
        · have h := h.2 hb
          refine aw_conv [.prune [1, 2, 5, 10, 11, 12] [2]] (st' := (⟨35, [(1, [], .v (.c (.p (.int .u32) setv3))), (2, [], .v (.c (.ptr 2 0))), (5, [], .v (.c (.p (.int .u32) setv2))), (10, [], .v (.c (.p (.sl (.pr (.int .i64) (.pr (.int .i64) (.int .i64)))) n.2.2.1))), (11, [], .v (.c (.p (.int .i64) (n.2.2.1.length : Int)))), (12, [], .v (.c (.p (.int .i64) v12)))], [(2, [], .box [.p (.int .i64) n.1, .p (.int .i64) n.2.1, .p (.sl (.pr (.int .i64) (.pr (.int .i64) (.int .i64)))) n.2.2.1, .p (.int .u32) n.2.2.2.1, .p (.int .u32) n.2.2.2.2])]⟩ : St)) (by kernel_rfl) ?_
          refine aw_skip ?_
          exact rest2 setv3 h
    · have h := h.2 hb
      refine aw_conv [.prune [1, 2, 5] [2]] (st' := (⟨35, [(1, [], .v (.c (.p (.int .u32) setv3))), (2, [], .v (.c (.ptr 2 0))), (5, [], .v (.c (.p (.int .u32) setv2)))], [(2, [], .box [.p (.int .i64) n.1, .p (.int .i64) n.2.1, .p (.sl (.pr (.int .i64) (.pr (.int .i64) (.int .i64)))) n.2.2.1, .p (.int .u32) n.2.2.2.1, .p (.int .u32) n.2.2.2.2])]⟩ : St)) (by kernel_rfl) ?_
      refine aw_exit ?_
      refine thenQ_x ?_
      refine thenQ_x ?_
      refine blockQ_hit ?_
      exact rest1 setv3 h

-- coppicer/net.step
def VC46_k1 (n : (Int × (Int × ((List (Int × (Int × Int))) × (Int × Int))))) (K : Int → Prop) (out : Int) : Prop :=
  VC45 n out (fun (ret35v : Int) => K ret35v)

def VC46_k2 (v13 : Int) (X1 : Int × Int → Prop) (out2 : Int) : Prop :=
  (InR (v13 + (1 : Int)) ∧ X1 (out2, (v13 + (1 : Int))))

def VC46_l1 (n : (Int × (Int × ((List (Int × (Int × Int))) × (Int × Int))))) (setv : Int) (sv : Int) (K : Int → Prop) (out : Int) (v13 : Int) (X1 : Int × Int → Prop) : Prop :=
  (((decide (v13 < (n.2.2.1.length : Int))) = true → (inIdx v13 n.2.2.1.length ∧ gcall (α := Bool) (decide ((n.2.2.1.getD (v13).toNat ((0 : Int), ((0 : Int), (0 : Int)))).2.1 = sv)) (VC42 setv ((n.2.2.1.getD (v13).toNat ((0 : Int), ((0 : Int), (0 : Int)))).1)) false (fun (ret25v : Bool) => ((((decide ((n.2.2.1.getD (v13).toNat ((0 : Int), ((0 : Int), (0 : Int)))).2.1 = sv)) && ret25v) = true → (0 ≤ (n.2.2.1.getD (v13).toNat ((0 : Int), ((0 : Int), (0 : Int)))).2.2 ∧ VC46_k2 v13 X1 (bOr .u32 out (bShl .u32 (1 : Int) ((n.2.2.1.getD (v13).toNat ((0 : Int), ((0 : Int), (0 : Int)))).2.2))))) ∧ (((decide ((n.2.2.1.getD (v13).toNat ((0 : Int), ((0 : Int), (0 : Int)))).2.1 = sv)) && ret25v) = false → VC46_k2 v13 X1 out))))) ∧ ((decide (v13 < (n.2.2.1.length : Int))) = false → VC46_k1 n K out))

def VC46 (n : (Int × (Int × ((List (Int × (Int × Int))) × (Int × Int))))) (setv : Int) (sv : Int) (K : Int → Prop) : Prop :=
  Loop (σ := Int × Int) (fun s X => VC46_l1 n setv sv K s.1 s.2 X) ((0 : Int), (0 : Int))

set_option maxHeartbeats 4000000 in
theorem link46 (n : (Int × (Int × ((List (Int × (Int × Int))) × (Int × Int))))) (setv : Int) (sv : Int) (K : Int → Prop) (h : VC46 n setv sv K) : ACalls Try.prog 46 [toV1 (.pr (.int .i64) (.pr (.int .i64) (.pr (.sl (.pr (.int .i64) (.pr (.int .i64) (.int .i64)))) (.pr (.int .u32) (.int .u32))))) n, toV1 (.int .u32) setv, toV1 (.int .i64) sv] (fun res => ∃ y, res = (fun y => [toV1 (.int .u32) y]) y ∧ K y) := by
  refine acalls_of_aw [(.int .u32)] [.t 6] Try.func46 rfl rfl rfl ?_
  unfold VC46 at h
  refine aw_seq ?_
  refine aw_region ?_
  refine awl_runp 2 [1, 2, 3] [3] (ob := (True ∧ True ∧ True)) (st' := (⟨36, [(1, [], .v (.c (.p (.int .u32) setv))), (2, [], .v (.c (.p (.int .i64) sv))), (3, [], .v (.c (.ptr 3 0)))], [(3, [], .box [.p (.int .i64) n.1, .p (.int .i64) n.2.1, .p (.sl (.pr (.int .i64) (.pr (.int .i64) (.int .i64)))) n.2.2.1, .p (.int .u32) n.2.2.2.1, .p (.int .u32) n.2.2.2.2])]⟩ : St)) (by kernel_rfl) ⟨trivial, trivial, trivial⟩ ?_
  refine awl_nil ?_
  refine thenQ_n ?_
  refine aw_seq ?_
  refine aw_region ?_
  refine awl_runp 1 [1, 2, 3, 7] [3] (ob := (True ∧ True)) (st' := (⟨36, [(1, [], .v (.c (.p (.int .u32) setv))), (2, [], .v (.c (.p (.int .i64) sv))), (3, [], .v (.c (.ptr 3 0))), (7, [], .v (.c (.p (.int .u32) (0 : Int))))], [(3, [], .box [.p (.int .i64) n.1, .p (.int .i64) n.2.1, .p (.sl (.pr (.int .i64) (.pr (.int .i64) (.int .i64)))) n.2.2.1, .p (.int .u32) n.2.2.2.1, .p (.int .u32) n.2.2.2.2])]⟩ : St)) (by kernel_rfl) ⟨trivial, trivial⟩ ?_
  refine awl_nil ?_
  refine thenQ_n ?_
  refine aw_seq ?_
  refine aw_seq ?_
  refine aw_region ?_
  refine awl_runp 4 [1, 2, 3, 7, 11, 12, 13] [3] (ob := (True ∧ True ∧ True ∧ True ∧ True)) (st' := (⟨36, [(1, [], .v (.c (.p (.int .u32) setv))), (2, [], .v (.c (.p (.int .i64) sv))), (3, [], .v (.c (.ptr 3 0))), (7, [], .v (.c (.p (.int .u32) (0 : Int)))), (11, [], .v (.c (.p (.sl (.pr (.int .i64) (.pr (.int .i64) (.int .i64)))) n.2.2.1))), (12, [], .v (.c (.p (.int .i64) (n.2.2.1.length : Int)))), (13, [], .v (.c (.p (.int .i64) (0 : Int))))], [(3, [], .box [.p (.int .i64) n.1, .p (.int .i64) n.2.1, .p (.sl (.pr (.int .i64) (.pr (.int .i64) (.int .i64)))) n.2.2.1, .p (.int .u32) n.2.2.2.1, .p (.int .u32) n.2.2.2.2])]⟩ : St)) (by kernel_rfl) ⟨trivial, trivial, trivial, trivial, trivial⟩ ?_
  refine awl_nil ?_
  refine thenQ_n ?_
  refine withJoin (σ := Int) (fun s => (⟨36, [(3, [], .v (.c (.ptr 3 0))), (7, [], .v (.c (.p (.int .u32) s)))], [(3, [], .box [.p (.int .i64) n.1, .p (.int .i64) n.2.1, .p (.sl (.pr (.int .i64) (.pr (.int .i64) (.int .i64)))) n.2.2.1, .p (.int .u32) n.2.2.2.1, .p (.int .u32) n.2.2.2.2])]⟩ : St)) (fun s => VC46_k1 n K s) (fun out h => ?_) (fun rest1 => ?_)
  · have h : VC46_k1 n K out := h
    unfold VC46_k1 at h
    refine thenQ_n ?_
    refine aw_seq ?_
    refine aw_region ?_
    refine awl_runp 2 [33, 34] [] (ob := (True ∧ True ∧ True)) (st' := (⟨36, [(33, [], .v (.agg [.p (.int .i64) n.1, .p (.int .i64) n.2.1, .p (.sl (.pr (.int .i64) (.pr (.int .i64) (.int .i64)))) n.2.2.1, .p (.int .u32) n.2.2.2.1, .p (.int .u32) n.2.2.2.2])), (34, [], .v (.c (.p (.int .u32) out)))], []⟩ : St)) (by kernel_rfl) ⟨trivial, trivial, trivial⟩ ?_
    refine awl_callk (p := []) (l := [toV1 (.pr (.int .i64) (.pr (.int .i64) (.pr (.sl (.pr (.int .i64) (.pr (.int .i64) (.int .i64)))) (.pr (.int .u32) (.int .u32))))) n, toV1 (.int .u32) out]) (cl := []) false [.d (.pr (.int .i64) (.pr (.int .i64) (.pr (.sl (.pr (.int .i64) (.pr (.int .i64) (.int .i64)))) (.pr (.int .u32) (.int .u32))))), .d (.int .u32)] [35] [] (fun (ret35v : Int) => K ret35v) (fun ret35v => [toV1 (.int .u32) ret35v]) (fun ret35v => (⟨36, [(35, [], .v (.c (.p (.int .u32) ret35v)))], []⟩ : St)) (by kernel_rfl) rfl (by kernel_rfl) rfl (by kernel_rfl) Try.call45 (by kernel_rfl) (fun ret35v => by kernel_rfl) (fun e => by cases e) (fun hg => link45 n out _ h) (fun hg => noF hg) (fun ret35v h => ?_)
    have h : K ret35v := h
    refine awl_runp 1 [6] [] (ob := (True ∧ True)) (st' := (⟨36, [(6, [], .v (.c (.p (.int .u32) ret35v)))], []⟩ : St)) (by kernel_rfl) ⟨trivial, trivial⟩ ?_
    refine awl_nil ?_
    refine thenQ_n ?_
    refine aw_ret ?_
    exact retQ_r (σ := Int) (R := (fun y => [toV1 (.int .u32) y])) (ob := (True ∧ True)) ret35v (by kernel_rfl) ⟨trivial, trivial⟩ h
  · refine aw_block ?_
    refine aw_loop (σ := Int × Int) (fun s => (⟨36, [(1, [], .v (.c (.p (.int .u32) setv))), (2, [], .v (.c (.p (.int .i64) sv))), (3, [], .v (.c (.ptr 3 0))), (7, [], .v (.c (.p (.int .u32) s.1))), (11, [], .v (.c (.p (.sl (.pr (.int .i64) (.pr (.int .i64) (.int .i64)))) n.2.2.1))), (12, [], .v (.c (.p (.int .i64) (n.2.2.1.length : Int)))), (13, [], .v (.c (.p (.int .i64) s.2)))], [(3, [], .box [.p (.int .i64) n.1, .p (.int .i64) n.2.1, .p (.sl (.pr (.int .i64) (.pr (.int .i64) (.int .i64)))) n.2.2.1, .p (.int .u32) n.2.2.2.1, .p (.int .u32) n.2.2.2.2])]⟩ : St)) (fun s X => VC46_l1 n setv sv K s.1 s.2 X) (s0 := ((0 : Int), (0 : Int))) (fun s X1 h => ?_) h
    obtain ⟨out, v13⟩ := s
    have h : VC46_l1 n setv sv K out v13 X1 := h
    unfold VC46_l1 at h
    refine aw_seq ?_
    refine aw_region ?_
    refine awl_runp 1 [1, 2, 3, 7, 11, 12, 13, 14] [3] (ob := (True ∧ True)) (st' := (⟨36, [(1, [], .v (.c (.p (.int .u32) setv))), (2, [], .v (.c (.p (.int .i64) sv))), (3, [], .v (.c (.ptr 3 0))), (7, [], .v (.c (.p (.int .u32) out))), (11, [], .v (.c (.p (.sl (.pr (.int .i64) (.pr (.int .i64) (.int .i64)))) n.2.2.1))), (12, [], .v (.c (.p (.int .i64) (n.2.2.1.length : Int)))), (13, [], .v (.c (.p (.int .i64) v13))), (14, [], .v (.c (.p .bool (decide (v13 < (n.2.2.1.length : Int))))))], [(3, [], .box [.p (.int .i64) n.1, .p (.int .i64) n.2.1, .p (.sl (.pr (.int .i64) (.pr (.int .i64) (.int .i64)))) n.2.2.1, .p (.int .u32) n.2.2.2.1, .p (.int .u32) n.2.2.2.2])]⟩ : St)) (by kernel_rfl) ⟨trivial, trivial⟩ ?_
    refine awl_nil ?_
    refine thenQ_n ?_
    refine aw_seq ?_
    refine aw_cond (b := (decide (v13 < (n.2.2.1.length : Int)))) (by kernel_rfl) (fun hb => ?_) (fun hb => ?_)
    · have h := h.1 hb
      refine aw_skip ?_
      refine thenQ_n ?_
      refine aw_seq ?_
      refine aw_block ?_
      refine aw_seq ?_
      refine aw_region ?_
      obtain ⟨o1, h⟩ := h
      refine awl_runp 4 [1, 2, 3, 7, 9, 11, 12, 13] [3, 9] (ob := (inIdx v13 n.2.2.1.length ∧ True ∧ True ∧ True ∧ True)) (st' := (⟨36, [(1, [], .v (.c (.p (.int .u32) setv))), (2, [], .v (.c (.p (.int .i64) sv))), (3, [], .v (.c (.ptr 3 0))), (7, [], .v (.c (.p (.int .u32) out))), (9, [], .v (.c (.ptr 9 0))), (11, [], .v (.c (.p (.sl (.pr (.int .i64) (.pr (.int .i64) (.int .i64)))) n.2.2.1))), (12, [], .v (.c (.p (.int .i64) (n.2.2.1.length : Int)))), (13, [], .v (.c (.p (.int .i64) v13)))], [(3, [], .box [.p (.int .i64) n.1, .p (.int .i64) n.2.1, .p (.sl (.pr (.int .i64) (.pr (.int .i64) (.int .i64)))) n.2.2.1, .p (.int .u32) n.2.2.2.1, .p (.int .u32) n.2.2.2.2]), (9, [], .box [.p (.int .i64) ((n.2.2.1.getD (v13).toNat ((0 : Int), ((0 : Int), (0 : Int)))).1), .p (.int .i64) ((n.2.2.1.getD (v13).toNat ((0 : Int), ((0 : Int), (0 : Int)))).2.1), .p (.int .i64) ((n.2.2.1.getD (v13).toNat ((0 : Int), ((0 : Int), (0 : Int)))).2.2)])]⟩ : St)) (by kernel_rfl) ⟨o1, trivial, trivial, trivial, trivial⟩ ?_
      refine awl_nil ?_
      refine thenQ_n ?_
      refine aw_seq ?_
      refine aw_region ?_
      refine awl_runp 8 [1, 2, 3, 7, 9, 11, 12, 13, 21, 22, 24] [3, 9] (ob := (True ∧ True ∧ True ∧ True ∧ True ∧ ((decide ((n.2.2.1.getD (v13).toNat ((0 : Int), ((0 : Int), (0 : Int)))).2.1 = sv)) = true → True) ∧ ((decide ((n.2.2.1.getD (v13).toNat ((0 : Int), ((0 : Int), (0 : Int)))).2.1 = sv)) = true → True) ∧ ((decide ((n.2.2.1.getD (v13).toNat ((0 : Int), ((0 : Int), (0 : Int)))).2.1 = sv)) = true → True) ∧ True)) (st' := (⟨36, [(1, [], .v (.c (.p (.int .u32) setv))), (2, [], .v (.c (.p (.int .i64) sv))), (3, [], .v (.c (.ptr 3 0))), (7, [], .v (.c (.p (.int .u32) out))), (9, [], .v (.c (.ptr 9 0))), (11, [], .v (.c (.p (.sl (.pr (.int .i64) (.pr (.int .i64) (.int .i64)))) n.2.2.1))), (12, [], .v (.c (.p (.int .i64) (n.2.2.1.length : Int)))), (13, [], .v (.c (.p (.int .i64) v13))), (21, [], .v (.c (.p .bool (decide ((n.2.2.1.getD (v13).toNat ((0 : Int), ((0 : Int), (0 : Int)))).2.1 = sv))))), (22, [(21, true)], .v (.c (.p (.int .u32) setv))), (24, [(21, true)], .v (.c (.p (.int .i64) ((n.2.2.1.getD (v13).toNat ((0 : Int), ((0 : Int), (0 : Int)))).1))))], [(3, [], .box [.p (.int .i64) n.1, .p (.int .i64) n.2.1, .p (.sl (.pr (.int .i64) (.pr (.int .i64) (.int .i64)))) n.2.2.1, .p (.int .u32) n.2.2.2.1, .p (.int .u32) n.2.2.2.2]), (9, [], .box [.p (.int .i64) ((n.2.2.1.getD (v13).toNat ((0 : Int), ((0 : Int), (0 : Int)))).1), .p (.int .i64) ((n.2.2.1.getD (v13).toNat ((0 : Int), ((0 : Int), (0 : Int)))).2.1), .p (.int .i64) ((n.2.2.1.getD (v13).toNat ((0 : Int), ((0 : Int), (0 : Int)))).2.2)])]⟩ : St)) (by kernel_rfl) ⟨trivial, trivial, trivial, trivial, trivial, (fun _ => trivial), (fun _ => trivial), (fun _ => trivial), trivial⟩ ?_
      refine awl_callk (p := [(21, true)]) (l := [toV1 (.int .u32) setv, toV1 (.int .i64) ((n.2.2.1.getD (v13).toNat ((0 : Int), ((0 : Int), (0 : Int)))).1)]) (cl := []) false [.d (.int .u32), .d (.int .i64)] [1, 2, 3, 7, 9, 11, 12, 13, 21, 25] [3, 9] (fun (ret25v : Bool) => ((((decide ((n.2.2.1.getD (v13).toNat ((0 : Int), ((0 : Int), (0 : Int)))).2.1 = sv)) && ret25v) = true → (0 ≤ (n.2.2.1.getD (v13).toNat ((0 : Int), ((0 : Int), (0 : Int)))).2.2 ∧ VC46_k2 v13 X1 (bOr .u32 out (bShl .u32 (1 : Int) ((n.2.2.1.getD (v13).toNat ((0 : Int), ((0 : Int), (0 : Int)))).2.2))))) ∧ (((decide ((n.2.2.1.getD (v13).toNat ((0 : Int), ((0 : Int), (0 : Int)))).2.1 = sv)) && ret25v) = false → VC46_k2 v13 X1 out))) (fun ret25v => [toV1 .bool ret25v]) (fun ret25v => (⟨36, [(1, [], .v (.c (.p (.int .u32) setv))), (2, [], .v (.c (.p (.int .i64) sv))), (3, [], .v (.c (.ptr 3 0))), (7, [], .v (.c (.p (.int .u32) out))), (9, [], .v (.c (.ptr 9 0))), (11, [], .v (.c (.p (.sl (.pr (.int .i64) (.pr (.int .i64) (.int .i64)))) n.2.2.1))), (12, [], .v (.c (.p (.int .i64) (n.2.2.1.length : Int)))), (13, [], .v (.c (.p (.int .i64) v13))), (21, [], .v (.c (.p .bool (decide ((n.2.2.1.getD (v13).toNat ((0 : Int), ((0 : Int), (0 : Int)))).2.1 = sv))))), (25, [(21, true)], .v (.c (.p .bool ret25v)))], [(3, [], .box [.p (.int .i64) n.1, .p (.int .i64) n.2.1, .p (.sl (.pr (.int .i64) (.pr (.int .i64) (.int .i64)))) n.2.2.1, .p (.int .u32) n.2.2.2.1, .p (.int .u32) n.2.2.2.2]), (9, [], .box [.p (.int .i64) ((n.2.2.1.getD (v13).toNat ((0 : Int), ((0 : Int), (0 : Int)))).1), .p (.int .i64) ((n.2.2.1.getD (v13).toNat ((0 : Int), ((0 : Int), (0 : Int)))).2.1), .p (.int .i64) ((n.2.2.1.getD (v13).toNat ((0 : Int), ((0 : Int), (0 : Int)))).2.2)])]⟩ : St)) (by kernel_rfl) rfl (by kernel_rfl) rfl (by kernel_rfl) Try.call42 (by kernel_rfl) (fun ret25v => by kernel_rfl) (fun e => by cases e) (fun hg => link42 setv ((n.2.2.1.getD (v13).toNat ((0 : Int), ((0 : Int), (0 : Int)))).1) _ (by have := gcall_T h (show (decide ((n.2.2.1.getD (v13).toNat ((0 : Int), ((0 : Int), (0 : Int)))).2.1 = sv)) = true from hg); exact this)) (fun hg => ⟨false, by have := gcall_F h (show (decide ((n.2.2.1.getD (v13).toNat ((0 : Int), ((0 : Int), (0 : Int)))).2.1 = sv)) = false from hg); exact this⟩) (fun ret25v h => ?_)
      have h : ((((decide ((n.2.2.1.getD (v13).toNat ((0 : Int), ((0 : Int), (0 : Int)))).2.1 = sv)) && ret25v) = true → (0 ≤ (n.2.2.1.getD (v13).toNat ((0 : Int), ((0 : Int), (0 : Int)))).2.2 ∧ VC46_k2 v13 X1 (bOr .u32 out (bShl .u32 (1 : Int) ((n.2.2.1.getD (v13).toNat ((0 : Int), ((0 : Int), (0 : Int)))).2.2))))) ∧ (((decide ((n.2.2.1.getD (v13).toNat ((0 : Int), ((0 : Int), (0 : Int)))).2.1 = sv)) && ret25v) = false → VC46_k2 v13 X1 out)) := h
      refine awl_runp 1 [1, 2, 3, 7, 9, 11, 12, 13, 26] [3, 9] (ob := (True ∧ True)) (st' := (⟨36, [(1, [], .v (.c (.p (.int .u32) setv))), (2, [], .v (.c (.p (.int .i64) sv))), (3, [], .v (.c (.ptr 3 0))), (7, [], .v (.c (.p (.int .u32) out))), (9, [], .v (.c (.ptr 9 0))), (11, [], .v (.c (.p (.sl (.pr (.int .i64) (.pr (.int .i64) (.int .i64)))) n.2.2.1))), (12, [], .v (.c (.p (.int .i64) (n.2.2.1.length : Int)))), (13, [], .v (.c (.p (.int .i64) v13))), (26, [], .v (.c (.p .bool ((decide ((n.2.2.1.getD (v13).toNat ((0 : Int), ((0 : Int), (0 : Int)))).2.1 = sv)) && ret25v))))], [(3, [], .box [.p (.int .i64) n.1, .p (.int .i64) n.2.1, .p (.sl (.pr (.int .i64) (.pr (.int .i64) (.int .i64)))) n.2.2.1, .p (.int .u32) n.2.2.2.1, .p (.int .u32) n.2.2.2.2]), (9, [], .box [.p (.int .i64) ((n.2.2.1.getD (v13).toNat ((0 : Int), ((0 : Int), (0 : Int)))).1), .p (.int .i64) ((n.2.2.1.getD (v13).toNat ((0 : Int), ((0 : Int), (0 : Int)))).2.1), .p (.int .i64) ((n.2.2.1.getD (v13).toNat ((0 : Int), ((0 : Int), (0 : Int)))).2.2)])]⟩ : St)) (by kernel_rfl) ⟨trivial, trivial⟩ ?_
      refine awl_nil ?_
      refine thenQ_n ?_
      refine withJoin (σ := Int) (fun s => (⟨36, [(1, [], .v (.c (.p (.int .u32) setv))), (2, [], .v (.c (.p (.int .i64) sv))), (3, [], .v (.c (.ptr 3 0))), (7, [], .v (.c (.p (.int .u32) s))), (11, [], .v (.c (.p (.sl (.pr (.int .i64) (.pr (.int .i64) (.int .i64)))) n.2.2.1))), (12, [], .v (.c (.p (.int .i64) (n.2.2.1.length : Int)))), (13, [], .v (.c (.p (.int .i64) v13)))], [(3, [], .box [.p (.int .i64) n.1, .p (.int .i64) n.2.1, .p (.sl (.pr (.int .i64) (.pr (.int .i64) (.int .i64)))) n.2.2.1, .p (.int .u32) n.2.2.2.1, .p (.int .u32) n.2.2.2.2])]⟩ : St)) (fun s => VC46_k2 v13 X1 s) (fun out2 h => ?_) (fun rest2 => ?_)
      · have h : VC46_k2 v13 X1 out2 := h
        unfold VC46_k2 at h
        refine blockQ_n ?_
        refine thenQ_n ?_
        refine aw_region ?_
        obtain ⟨o1, h⟩ := h
        refine awl_runp 2 [1, 2, 3, 7, 11, 12, 13] [3] (ob := (InR (v13 + (1 : Int)) ∧ True ∧ True)) (st' := (⟨36, [(1, [], .v (.c (.p (.int .u32) setv))), (2, [], .v (.c (.p (.int .i64) sv))), (3, [], .v (.c (.ptr 3 0))), (7, [], .v (.c (.p (.int .u32) out2))), (11, [], .v (.c (.p (.sl (.pr (.int .i64) (.pr (.int .i64) (.int .i64)))) n.2.2.1))), (12, [], .v (.c (.p (.int .i64) (n.2.2.1.length : Int)))), (13, [], .v (.c (.p (.int .i64) (v13 + (1 : Int)))))], [(3, [], .box [.p (.int .i64) n.1, .p (.int .i64) n.2.1, .p (.sl (.pr (.int .i64) (.pr (.int .i64) (.int .i64)))) n.2.2.1, .p (.int .u32) n.2.2.2.1, .p (.int .u32) n.2.2.2.2])]⟩ : St)) (by kernel_rfl) ⟨o1, trivial, trivial⟩ ?_
        refine awl_nil ?_
        exact thenQ_n ⟨(out2, (v13 + (1 : Int))), rfl, h⟩
      · refine aw_cond (b := ((decide ((n.2.2.1.getD (v13).toNat ((0 : Int), ((0 : Int), (0 : Int)))).2.1 = sv)) && ret25v)) (by kernel_rfl) (fun hb => ?_) (fun hb => ?_)
        · have h := h.1 hb
          refine aw_region ?_
          obtain ⟨o1, h⟩ := h
          refine awl_runp 6 [1, 2, 3, 7, 11, 12, 13] [3] (ob := (True ∧ True ∧ True ∧ 0 ≤ (n.2.2.1.getD (v13).toNat ((0 : Int), ((0 : Int), (0 : Int)))).2.2 ∧ True ∧ True ∧ True)) (st' := (⟨36, [(1, [], .v (.c (.p (.int .u32) setv))), (2, [], .v (.c (.p (.int .i64) sv))), (3, [], .v (.c (.ptr 3 0))), (7, [], .v (.c (.p (.int .u32) (bOr .u32 out (bShl .u32 (1 : Int) ((n.2.2.1.getD (v13).toNat ((0 : Int), ((0 : Int), (0 : Int)))).2.2)))))), (11, [], .v (.c (.p (.sl (.pr (.int .i64) (.pr (.int .i64) (.int .i64)))) n.2.2.1))), (12, [], .v (.c (.p (.int .i64) (n.2.2.1.length : Int)))), (13, [], .v (.c (.p (.int .i64) v13)))], [(3, [], .box [.p (.int .i64) n.1, .p (.int .i64) n.2.1, .p (.sl (.pr (.int .i64) (.pr (.int .i64) (.int .i64)))) n.2.2.1, .p (.int .u32) n.2.2.2.1, .p (.int .u32) n.2.2.2.2])]⟩ : St)) (by kernel_rfl) ⟨trivial, trivial, trivial, o1, trivial, trivial, trivial⟩ ?_
          refine awl_nil ?_
          exact rest2 (bOr .u32 out (bShl .u32 (1 : Int) ((n.2.2.1.getD (v13).toNat ((0 : Int), ((0 : Int), (0 : Int)))).2.2))) h
        · have h := h.2 hb
          refine aw_conv [.prune [1, 2, 3, 7, 11, 12, 13] [3]] (st' := (⟨36, [(1, [], .v (.c (.p (.int .u32) setv))), (2, [], .v (.c (.p (.int .i64) sv))), (3, [], .v (.c (.ptr 3 0))), (7, [], .v (.c (.p (.int .u32) out))), (11, [], .v (.c (.p (.sl (.pr (.int .i64) (.pr (.int .i64) (.int .i64)))) n.2.2.1))), (12, [], .v (.c (.p (.int .i64) (n.2.2.1.length : Int)))), (13, [], .v (.c (.p (.int .i64) v13)))], [(3, [], .box [.p (.int .i64) n.1, .p (.int .i64) n.2.1, .p (.sl (.pr (.int .i64) (.pr (.int .i64) (.int .i64)))) n.2.2.1, .p (.int .u32) n.2.2.2.1, .p (.int .u32) n.2.2.2.2])]⟩ : St)) (by kernel_rfl) ?_
          refine aw_skip ?_
          exact rest2 out h
    · have h := h.2 hb
      refine aw_conv [.prune [3, 7] [3]] (st' := (⟨36, [(3, [], .v (.c (.ptr 3 0))), (7, [], .v (.c (.p (.int .u32) out)))], [(3, [], .box [.p (.int .i64) n.1, .p (.int .i64) n.2.1, .p (.sl (.pr (.int .i64) (.pr (.int .i64) (.int .i64)))) n.2.2.1, .p (.int .u32) n.2.2.2.1, .p (.int .u32) n.2.2.2.2])]⟩ : St)) (by kernel_rfl) ?_
      refine aw_exit ?_
      refine thenQ_x ?_
      refine thenQ_x ?_
      refine blockQ_hit ?_
      exact rest1 out h

-- coppicer/net.Run
def VC20_k1 (n : (Int × (Int × ((List (Int × (Int × Int))) × (Int × Int))))) (K : Int × Bool × Int → Prop) (setv : Int) : Prop :=
  K (setv, (!decide ((bAnd .u32 setv n.2.2.2.2) = (0 : Int))), (0 : Int))

def VC20_l1 (n : (Int × (Int × ((List (Int × (Int × Int))) × (Int × Int))))) (w : (List Int)) (K : Int × Bool × Int → Prop) (setv : Int) (v30 : Int) (X1 : Int × Int → Prop) : Prop :=
  (((decide (v30 < (w.length : Int))) = true → (inIdx v30 w.length ∧ VC46 n setv (w.getD (v30).toNat (0 : Int)) (fun (ret37v : Int) => (InR (v30 + (1 : Int)) ∧ X1 (ret37v, (v30 + (1 : Int))))))) ∧ ((decide (v30 < (w.length : Int))) = false → VC20_k1 n K setv))

def VC20 (n : (Int × (Int × ((List (Int × (Int × Int))) × (Int × Int))))) (w : (List Int)) (K : Int × Bool × Int → Prop) : Prop :=
  VC44 n (fun (ret13v : Int) => (((!decide (ret13v = (0 : Int))) = true → K ((0 : Int), false, ret13v)) ∧ ((!decide (ret13v = (0 : Int))) = false → VC41 n.2.1 w (fun (ret20v : Int) => (((!decide (ret20v = (0 : Int))) = true → K ((0 : Int), false, ret20v)) ∧ ((!decide (ret20v = (0 : Int))) = false → VC45 n n.2.2.2.1 (fun (ret27v : Int) => Loop (σ := Int × Int) (fun s X => VC20_l1 n w K s.1 s.2 X) (ret27v, (0 : Int)))))))))

set_option maxHeartbeats 4000000 in
theorem link20 (n : (Int × (Int × ((List (Int × (Int × Int))) × (Int × Int))))) (w : (List Int)) (K : Int × Bool × Int → Prop) (h : VC20 n w K) : ACalls Try.prog 20 [toV1 (.pr (.int .i64) (.pr (.int .i64) (.pr (.sl (.pr (.int .i64) (.pr (.int .i64) (.int .i64)))) (.pr (.int .u32) (.int .u32))))) n, toV1 (.sl (.int .i64)) w] (fun res => ∃ y, res = (fun y => [toV1 (.int .u32) y.1, toV1 .bool y.2.1, toV1 (.int .i64) y.2.2]) y ∧ K y) := by
  refine acalls_of_aw [(.int .u32), .bool, (.int .i64)] [.t 4, .t 5, .t 6] Try.func20 rfl rfl rfl ?_
  unfold VC20 at h
  refine aw_seq ?_
  refine aw_region ?_
  refine awl_runp 4 [1, 2] [2] (ob := (True ∧ True ∧ True ∧ True ∧ True)) (st' := (⟨45, [(1, [], .v (.c (.p (.sl (.int .i64)) w))), (2, [], .v (.c (.ptr 2 0)))], [(2, [], .box [.p (.int .i64) n.1, .p (.int .i64) n.2.1, .p (.sl (.pr (.int .i64) (.pr (.int .i64) (.int .i64)))) n.2.2.1, .p (.int .u32) n.2.2.2.1, .p (.int .u32) n.2.2.2.2])]⟩ : St)) (by kernel_rfl) ⟨trivial, trivial, trivial, trivial, trivial⟩ ?_
  refine awl_nil ?_
  refine thenQ_n ?_
  refine aw_seq ?_
  refine aw_seq ?_
  refine aw_region ?_
  refine awl_runp 1 [1, 2, 12] [2] (ob := (True ∧ True)) (st' := (⟨45, [(1, [], .v (.c (.p (.sl (.int .i64)) w))), (2, [], .v (.c (.ptr 2 0))), (12, [], .v (.agg [.p (.int .i64) n.1, .p (.int .i64) n.2.1, .p (.sl (.pr (.int .i64) (.pr (.int .i64) (.int .i64)))) n.2.2.1, .p (.int .u32) n.2.2.2.1, .p (.int .u32) n.2.2.2.2]))], [(2, [], .box [.p (.int .i64) n.1, .p (.int .i64) n.2.1, .p (.sl (.pr (.int .i64) (.pr (.int .i64) (.int .i64)))) n.2.2.1, .p (.int .u32) n.2.2.2.1, .p (.int .u32) n.2.2.2.2])]⟩ : St)) (by kernel_rfl) ⟨trivial, trivial⟩ ?_
  refine awl_callk (p := []) (l := [toV1 (.pr (.int .i64) (.pr (.int .i64) (.pr (.sl (.pr (.int .i64) (.pr (.int .i64) (.int .i64)))) (.pr (.int .u32) (.int .u32))))) n]) (cl := []) false [.d (.pr (.int .i64) (.pr (.int .i64) (.pr (.sl (.pr (.int .i64) (.pr (.int .i64) (.int .i64)))) (.pr (.int .u32) (.int .u32)))))] [1, 2, 13] [2] (fun (ret13v : Int) => (((!decide (ret13v = (0 : Int))) = true → K ((0 : Int), false, ret13v)) ∧ ((!decide (ret13v = (0 : Int))) = false → VC41 n.2.1 w (fun (ret20v : Int) => (((!decide (ret20v = (0 : Int))) = true → K ((0 : Int), false, ret20v)) ∧ ((!decide (ret20v = (0 : Int))) = false → VC45 n n.2.2.2.1 (fun (ret27v : Int) => Loop (σ := Int × Int) (fun s X => VC20_l1 n w K s.1 s.2 X) (ret27v, (0 : Int))))))))) (fun ret13v => [toV1 (.int .i64) ret13v]) (fun ret13v => (⟨45, [(1, [], .v (.c (.p (.sl (.int .i64)) w))), (2, [], .v (.c (.ptr 2 0))), (13, [], .v (.c (.p (.int .i64) ret13v)))], [(2, [], .box [.p (.int .i64) n.1, .p (.int .i64) n.2.1, .p (.sl (.pr (.int .i64) (.pr (.int .i64) (.int .i64)))) n.2.2.1, .p (.int .u32) n.2.2.2.1, .p (.int .u32) n.2.2.2.2])]⟩ : St)) (by kernel_rfl) rfl (by kernel_rfl) rfl (by kernel_rfl) Try.call44 (by kernel_rfl) (fun ret13v => by kernel_rfl) (fun e => by cases e) (fun hg => link44 n _ h) (fun hg => noF hg) (fun ret13v h => ?_)
  have h : (((!decide (ret13v = (0 : Int))) = true → K ((0 : Int), false, ret13v)) ∧ ((!decide (ret13v = (0 : Int))) = false → VC41 n.2.1 w (fun (ret20v : Int) => (((!decide (ret20v = (0 : Int))) = true → K ((0 : Int), false, ret20v)) ∧ ((!decide (ret20v = (0 : Int))) = false → VC45 n n.2.2.2.1 (fun (ret27v : Int) => Loop (σ := Int × Int) (fun s X => VC20_l1 n w K s.1 s.2 X) (ret27v, (0 : Int)))))))) := h
  refine awl_runp 1 [1, 2, 7] [2] (ob := (True ∧ True)) (st' := (⟨45, [(1, [], .v (.c (.p (.sl (.int .i64)) w))), (2, [], .v (.c (.ptr 2 0))), (7, [], .v (.c (.p (.int .i64) ret13v)))], [(2, [], .box [.p (.int .i64) n.1, .p (.int .i64) n.2.1, .p (.sl (.pr (.int .i64) (.pr (.int .i64) (.int .i64)))) n.2.2.1, .p (.int .u32) n.2.2.2.1, .p (.int .u32) n.2.2.2.2])]⟩ : St)) (by kernel_rfl) ⟨trivial, trivial⟩ ?_
  refine awl_nil ?_
  refine thenQ_n ?_
  refine aw_seq ?_
  refine aw_region ?_
  refine awl_runp 2 [1, 2, 7, 15] [2] (ob := (True ∧ True ∧ True)) (st' := (⟨45, [(1, [], .v (.c (.p (.sl (.int .i64)) w))), (2, [], .v (.c (.ptr 2 0))), (7, [], .v (.c (.p (.int .i64) ret13v))), (15, [], .v (.c (.p .bool (!decide (ret13v = (0 : Int))))))], [(2, [], .box [.p (.int .i64) n.1, .p (.int .i64) n.2.1, .p (.sl (.pr (.int .i64) (.pr (.int .i64) (.int .i64)))) n.2.2.1, .p (.int .u32) n.2.2.2.1, .p (.int .u32) n.2.2.2.2])]⟩ : St)) (by kernel_rfl) ⟨trivial, trivial, trivial⟩ ?_
  refine awl_nil ?_
  refine thenQ_n ?_
  refine aw_cond (b := (!decide (ret13v = (0 : Int)))) (by kernel_rfl) (fun hb => ?_) (fun hb => ?_)
  · have h := h.1 hb
    refine aw_seq ?_
    refine aw_region ?_
    refine awl_runp 4 [4, 5, 6] [] (ob := (True ∧ True ∧ True ∧ True ∧ True)) (st' := (⟨45, [(4, [], .v (.c (.p (.int .u32) (0 : Int)))), (5, [], .v (.c (.p .bool false))), (6, [], .v (.c (.p (.int .i64) ret13v)))], []⟩ : St)) (by kernel_rfl) ⟨trivial, trivial, trivial, trivial, trivial⟩ ?_
    refine awl_nil ?_
    refine thenQ_n ?_
    refine aw_ret ?_
    refine thenQ_r ?_
    exact retQ_r (σ := Int × Bool × Int) (R := (fun y => [toV1 (.int .u32) y.1, toV1 .bool y.2.1, toV1 (.int .i64) y.2.2])) (ob := (True ∧ True ∧ True ∧ True)) ((0 : Int), false, ret13v) (by kernel_rfl) ⟨trivial, trivial, trivial, trivial⟩ h
  · have h := h.2 hb
    refine aw_skip ?_
    refine thenQ_n ?_
    refine aw_seq ?_
    refine aw_seq ?_
    refine aw_region ?_
    refine awl_runp 3 [1, 2, 18, 19] [2] (ob := (True ∧ True ∧ True ∧ True)) (st' := (⟨45, [(1, [], .v (.c (.p (.sl (.int .i64)) w))), (2, [], .v (.c (.ptr 2 0))), (18, [], .v (.c (.p (.int .i64) n.2.1))), (19, [], .v (.c (.p (.sl (.int .i64)) w)))], [(2, [], .box [.p (.int .i64) n.1, .p (.int .i64) n.2.1, .p (.sl (.pr (.int .i64) (.pr (.int .i64) (.int .i64)))) n.2.2.1, .p (.int .u32) n.2.2.2.1, .p (.int .u32) n.2.2.2.2])]⟩ : St)) (by kernel_rfl) ⟨trivial, trivial, trivial, trivial⟩ ?_
    refine awl_callk (p := []) (l := [toV1 (.int .i64) n.2.1, toV1 (.sl (.int .i64)) w]) (cl := []) false [.d (.int .i64), .d (.sl (.int .i64))] [1, 2, 20] [2] (fun (ret20v : Int) => (((!decide (ret20v = (0 : Int))) = true → K ((0 : Int), false, ret20v)) ∧ ((!decide (ret20v = (0 : Int))) = false → VC45 n n.2.2.2.1 (fun (ret27v : Int) => Loop (σ := Int × Int) (fun s X => VC20_l1 n w K s.1 s.2 X) (ret27v, (0 : Int)))))) (fun ret20v => [toV1 (.int .i64) ret20v]) (fun ret20v => (⟨45, [(1, [], .v (.c (.p (.sl (.int .i64)) w))), (2, [], .v (.c (.ptr 2 0))), (20, [], .v (.c (.p (.int .i64) ret20v)))], [(2, [], .box [.p (.int .i64) n.1, .p (.int .i64) n.2.1, .p (.sl (.pr (.int .i64) (.pr (.int .i64) (.int .i64)))) n.2.2.1, .p (.int .u32) n.2.2.2.1, .p (.int .u32) n.2.2.2.2])]⟩ : St)) (by kernel_rfl) rfl (by kernel_rfl) rfl (by kernel_rfl) Try.call41 (by kernel_rfl) (fun ret20v => by kernel_rfl) (fun e => by cases e) (fun hg => link41 n.2.1 w _ h) (fun hg => noF hg) (fun ret20v h => ?_)
    have h : (((!decide (ret20v = (0 : Int))) = true → K ((0 : Int), false, ret20v)) ∧ ((!decide (ret20v = (0 : Int))) = false → VC45 n n.2.2.2.1 (fun (ret27v : Int) => Loop (σ := Int × Int) (fun s X => VC20_l1 n w K s.1 s.2 X) (ret27v, (0 : Int))))) := h
    refine awl_runp 1 [1, 2, 8] [2] (ob := (True ∧ True)) (st' := (⟨45, [(1, [], .v (.c (.p (.sl (.int .i64)) w))), (2, [], .v (.c (.ptr 2 0))), (8, [], .v (.c (.p (.int .i64) ret20v)))], [(2, [], .box [.p (.int .i64) n.1, .p (.int .i64) n.2.1, .p (.sl (.pr (.int .i64) (.pr (.int .i64) (.int .i64)))) n.2.2.1, .p (.int .u32) n.2.2.2.1, .p (.int .u32) n.2.2.2.2])]⟩ : St)) (by kernel_rfl) ⟨trivial, trivial⟩ ?_
    refine awl_nil ?_
    refine thenQ_n ?_
    refine aw_seq ?_
    refine aw_region ?_
    refine awl_runp 2 [1, 2, 8, 22] [2] (ob := (True ∧ True ∧ True)) (st' := (⟨45, [(1, [], .v (.c (.p (.sl (.int .i64)) w))), (2, [], .v (.c (.ptr 2 0))), (8, [], .v (.c (.p (.int .i64) ret20v))), (22, [], .v (.c (.p .bool (!decide (ret20v = (0 : Int))))))], [(2, [], .box [.p (.int .i64) n.1, .p (.int .i64) n.2.1, .p (.sl (.pr (.int .i64) (.pr (.int .i64) (.int .i64)))) n.2.2.1, .p (.int .u32) n.2.2.2.1, .p (.int .u32) n.2.2.2.2])]⟩ : St)) (by kernel_rfl) ⟨trivial, trivial, trivial⟩ ?_
    refine awl_nil ?_
    refine thenQ_n ?_
    refine aw_cond (b := (!decide (ret20v = (0 : Int)))) (by kernel_rfl) (fun hb => ?_) (fun hb => ?_)
    · have h := h.1 hb
      refine aw_seq ?_
      refine aw_region ?_
      refine awl_runp 4 [4, 5, 6] [] (ob := (True ∧ True ∧ True ∧ True ∧ True)) (st' := (⟨45, [(4, [], .v (.c (.p (.int .u32) (0 : Int)))), (5, [], .v (.c (.p .bool false))), (6, [], .v (.c (.p (.int .i64) ret20v)))], []⟩ : St)) (by kernel_rfl) ⟨trivial, trivial, trivial, trivial, trivial⟩ ?_
      refine awl_nil ?_
      refine thenQ_n ?_
      refine aw_ret ?_
      refine thenQ_r ?_
      exact retQ_r (σ := Int × Bool × Int) (R := (fun y => [toV1 (.int .u32) y.1, toV1 .bool y.2.1, toV1 (.int .i64) y.2.2])) (ob := (True ∧ True ∧ True ∧ True)) ((0 : Int), false, ret20v) (by kernel_rfl) ⟨trivial, trivial, trivial, trivial⟩ h
    · have h := h.2 hb
      refine aw_skip ?_
      refine thenQ_n ?_
      refine aw_seq ?_
      refine aw_region ?_
      refine awl_runp 3 [1, 2, 24, 26] [2] (ob := (True ∧ True ∧ True ∧ True)) (st' := (⟨45, [(1, [], .v (.c (.p (.sl (.int .i64)) w))), (2, [], .v (.c (.ptr 2 0))), (24, [], .v (.agg [.p (.int .i64) n.1, .p (.int .i64) n.2.1, .p (.sl (.pr (.int .i64) (.pr (.int .i64) (.int .i64)))) n.2.2.1, .p (.int .u32) n.2.2.2.1, .p (.int .u32) n.2.2.2.2])), (26, [], .v (.c (.p (.int .u32) n.2.2.2.1)))], [(2, [], .box [.p (.int .i64) n.1, .p (.int .i64) n.2.1, .p (.sl (.pr (.int .i64) (.pr (.int .i64) (.int .i64)))) n.2.2.1, .p (.int .u32) n.2.2.2.1, .p (.int .u32) n.2.2.2.2])]⟩ : St)) (by kernel_rfl) ⟨trivial, trivial, trivial, trivial⟩ ?_
      refine awl_callk (p := []) (l := [toV1 (.pr (.int .i64) (.pr (.int .i64) (.pr (.sl (.pr (.int .i64) (.pr (.int .i64) (.int .i64)))) (.pr (.int .u32) (.int .u32))))) n, toV1 (.int .u32) n.2.2.2.1]) (cl := []) false [.d (.pr (.int .i64) (.pr (.int .i64) (.pr (.sl (.pr (.int .i64) (.pr (.int .i64) (.int .i64)))) (.pr (.int .u32) (.int .u32))))), .d (.int .u32)] [1, 2, 27] [2] (fun (ret27v : Int) => Loop (σ := Int × Int) (fun s X => VC20_l1 n w K s.1 s.2 X) (ret27v, (0 : Int))) (fun ret27v => [toV1 (.int .u32) ret27v]) (fun ret27v => (⟨45, [(1, [], .v (.c (.p (.sl (.int .i64)) w))), (2, [], .v (.c (.ptr 2 0))), (27, [], .v (.c (.p (.int .u32) ret27v)))], [(2, [], .box [.p (.int .i64) n.1, .p (.int .i64) n.2.1, .p (.sl (.pr (.int .i64) (.pr (.int .i64) (.int .i64)))) n.2.2.1, .p (.int .u32) n.2.2.2.1, .p (.int .u32) n.2.2.2.2])]⟩ : St)) (by kernel_rfl) rfl (by kernel_rfl) rfl (by kernel_rfl) Try.call45 (by kernel_rfl) (fun ret27v => by kernel_rfl) (fun e => by cases e) (fun hg => link45 n n.2.2.2.1 _ h) (fun hg => noF hg) (fun ret27v h => ?_)
      have h : Loop (σ := Int × Int) (fun s X => VC20_l1 n w K s.1 s.2 X) (ret27v, (0 : Int)) := h
      refine awl_runp 1 [1, 2, 9] [2] (ob := (True ∧ True)) (st' := (⟨45, [(1, [], .v (.c (.p (.sl (.int .i64)) w))), (2, [], .v (.c (.ptr 2 0))), (9, [], .v (.c (.p (.int .u32) ret27v)))], [(2, [], .box [.p (.int .i64) n.1, .p (.int .i64) n.2.1, .p (.sl (.pr (.int .i64) (.pr (.int .i64) (.int .i64)))) n.2.2.1, .p (.int .u32) n.2.2.2.1, .p (.int .u32) n.2.2.2.2])]⟩ : St)) (by kernel_rfl) ⟨trivial, trivial⟩ ?_
      refine awl_nil ?_
      refine thenQ_n ?_
      refine aw_seq ?_
      refine aw_seq ?_
      refine aw_region ?_
      refine awl_runp 3 [2, 9, 28, 29, 30] [2] (ob := (True ∧ True ∧ True ∧ True)) (st' := (⟨45, [(2, [], .v (.c (.ptr 2 0))), (9, [], .v (.c (.p (.int .u32) ret27v))), (28, [], .v (.c (.p (.sl (.int .i64)) w))), (29, [], .v (.c (.p (.int .i64) (w.length : Int)))), (30, [], .v (.c (.p (.int .i64) (0 : Int))))], [(2, [], .box [.p (.int .i64) n.1, .p (.int .i64) n.2.1, .p (.sl (.pr (.int .i64) (.pr (.int .i64) (.int .i64)))) n.2.2.1, .p (.int .u32) n.2.2.2.1, .p (.int .u32) n.2.2.2.2])]⟩ : St)) (by kernel_rfl) ⟨trivial, trivial, trivial, trivial⟩ ?_
      refine awl_nil ?_
      refine thenQ_n ?_
      refine withJoin (σ := Int) (fun s => (⟨45, [(2, [], .v (.c (.ptr 2 0))), (9, [], .v (.c (.p (.int .u32) s)))], [(2, [], .box [.p (.int .i64) n.1, .p (.int .i64) n.2.1, .p (.sl (.pr (.int .i64) (.pr (.int .i64) (.int .i64)))) n.2.2.1, .p (.int .u32) n.2.2.2.1, .p (.int .u32) n.2.2.2.2])]⟩ : St)) (fun s => VC20_k1 n K s) (fun setv h => ?_) (fun rest1 => ?_)
      · have h : VC20_k1 n K setv := h
        unfold VC20_k1 at h
        refine thenQ_n ?_
        refine aw_seq ?_
        refine awd_begin [] (by kernel_rfl) ?_
        refine awd_runp (by kernel_rfl) [0, 1, 2, 3, 4, 5, 6, 7, 8] [4, 5, 6] [] (ob := (True ∧ True ∧ True ∧ True ∧ True ∧ True ∧ True ∧ True ∧ True ∧ True)) (done' := [8, 7, 6, 5, 4, 3, 2, 1, 0]) (st' := (⟨45, [(4, [], .v (.c (.p (.int .u32) setv))), (5, [], .v (.c (.p .bool (!decide ((bAnd .u32 setv n.2.2.2.2) = (0 : Int)))))), (6, [], .v (.c (.p (.int .i64) (0 : Int))))], []⟩ : St)) (by kernel_rfl) ⟨trivial, trivial, trivial, trivial, trivial, trivial, trivial, trivial, trivial, trivial⟩ ?_
        refine awd_done (by kernel_rfl) ?_
        refine thenQ_n ?_
        refine aw_ret ?_
        exact retQ_r (σ := Int × Bool × Int) (R := (fun y => [toV1 (.int .u32) y.1, toV1 .bool y.2.1, toV1 (.int .i64) y.2.2])) (ob := (True ∧ True ∧ True ∧ True)) (setv, (!decide ((bAnd .u32 setv n.2.2.2.2) = (0 : Int))), (0 : Int)) (by kernel_rfl) ⟨trivial, trivial, trivial, trivial⟩ h
      · refine aw_block ?_
        refine aw_loop (σ := Int × Int) (fun s => (⟨45, [(2, [], .v (.c (.ptr 2 0))), (9, [], .v (.c (.p (.int .u32) s.1))), (28, [], .v (.c (.p (.sl (.int .i64)) w))), (29, [], .v (.c (.p (.int .i64) (w.length : Int)))), (30, [], .v (.c (.p (.int .i64) s.2)))], [(2, [], .box [.p (.int .i64) n.1, .p (.int .i64) n.2.1, .p (.sl (.pr (.int .i64) (.pr (.int .i64) (.int .i64)))) n.2.2.1, .p (.int .u32) n.2.2.2.1, .p (.int .u32) n.2.2.2.2])]⟩ : St)) (fun s X => VC20_l1 n w K s.1 s.2 X) (s0 := (ret27v, (0 : Int))) (fun s X1 h => ?_) h
        obtain ⟨setv, v30⟩ := s
        have h : VC20_l1 n w K setv v30 X1 := h
        unfold VC20_l1 at h
        refine aw_seq ?_
        refine aw_region ?_
        refine awl_runp 1 [2, 9, 28, 29, 30, 31] [2] (ob := (True ∧ True)) (st' := (⟨45, [(2, [], .v (.c (.ptr 2 0))), (9, [], .v (.c (.p (.int .u32) setv))), (28, [], .v (.c (.p (.sl (.int .i64)) w))), (29, [], .v (.c (.p (.int .i64) (w.length : Int)))), (30, [], .v (.c (.p (.int .i64) v30))), (31, [], .v (.c (.p .bool (decide (v30 < (w.length : Int))))))], [(2, [], .box [.p (.int .i64) n.1, .p (.int .i64) n.2.1, .p (.sl (.pr (.int .i64) (.pr (.int .i64) (.int .i64)))) n.2.2.1, .p (.int .u32) n.2.2.2.1, .p (.int .u32) n.2.2.2.2])]⟩ : St)) (by kernel_rfl) ⟨trivial, trivial⟩ ?_
        refine awl_nil ?_
        refine thenQ_n ?_
        refine aw_seq ?_
        refine aw_cond (b := (decide (v30 < (w.length : Int)))) (by kernel_rfl) (fun hb => ?_) (fun hb => ?_)
        · have h := h.1 hb
          refine aw_skip ?_
          refine thenQ_n ?_
          refine aw_seq ?_
          refine aw_block ?_
          refine aw_seq ?_
          refine aw_region ?_
          obtain ⟨o1, h⟩ := h
          refine awl_runp 3 [2, 9, 11, 28, 29, 30] [2] (ob := (inIdx v30 w.length ∧ True ∧ True ∧ True)) (st' := (⟨45, [(2, [], .v (.c (.ptr 2 0))), (9, [], .v (.c (.p (.int .u32) setv))), (11, [], .v (.c (.p (.int .i64) (w.getD (v30).toNat (0 : Int))))), (28, [], .v (.c (.p (.sl (.int .i64)) w))), (29, [], .v (.c (.p (.int .i64) (w.length : Int)))), (30, [], .v (.c (.p (.int .i64) v30)))], [(2, [], .box [.p (.int .i64) n.1, .p (.int .i64) n.2.1, .p (.sl (.pr (.int .i64) (.pr (.int .i64) (.int .i64)))) n.2.2.1, .p (.int .u32) n.2.2.2.1, .p (.int .u32) n.2.2.2.2])]⟩ : St)) (by kernel_rfl) ⟨o1, trivial, trivial, trivial⟩ ?_
          refine awl_nil ?_
          refine thenQ_n ?_
          refine aw_region ?_
          refine awl_runp 3 [2, 28, 29, 30, 34, 35, 36] [2] (ob := (True ∧ True ∧ True ∧ True)) (st' := (⟨45, [(2, [], .v (.c (.ptr 2 0))), (28, [], .v (.c (.p (.sl (.int .i64)) w))), (29, [], .v (.c (.p (.int .i64) (w.length : Int)))), (30, [], .v (.c (.p (.int .i64) v30))), (34, [], .v (.agg [.p (.int .i64) n.1, .p (.int .i64) n.2.1, .p (.sl (.pr (.int .i64) (.pr (.int .i64) (.int .i64)))) n.2.2.1, .p (.int .u32) n.2.2.2.1, .p (.int .u32) n.2.2.2.2])), (35, [], .v (.c (.p (.int .u32) setv))), (36, [], .v (.c (.p (.int .i64) (w.getD (v30).toNat (0 : Int)))))], [(2, [], .box [.p (.int .i64) n.1, .p (.int .i64) n.2.1, .p (.sl (.pr (.int .i64) (.pr (.int .i64) (.int .i64)))) n.2.2.1, .p (.int .u32) n.2.2.2.1, .p (.int .u32) n.2.2.2.2])]⟩ : St)) (by kernel_rfl) ⟨trivial, trivial, trivial, trivial⟩ ?_
          refine awl_callk (p := []) (l := [toV1 (.pr (.int .i64) (.pr (.int .i64) (.pr (.sl (.pr (.int .i64) (.pr (.int .i64) (.int .i64)))) (.pr (.int .u32) (.int .u32))))) n, toV1 (.int .u32) setv, toV1 (.int .i64) (w.getD (v30).toNat (0 : Int))]) (cl := []) false [.d (.pr (.int .i64) (.pr (.int .i64) (.pr (.sl (.pr (.int .i64) (.pr (.int .i64) (.int .i64)))) (.pr (.int .u32) (.int .u32))))), .d (.int .u32), .d (.int .i64)] [2, 28, 29, 30, 37] [2] (fun (ret37v : Int) => (InR (v30 + (1 : Int)) ∧ X1 (ret37v, (v30 + (1 : Int))))) (fun ret37v => [toV1 (.int .u32) ret37v]) (fun ret37v => (⟨45, [(2, [], .v (.c (.ptr 2 0))), (28, [], .v (.c (.p (.sl (.int .i64)) w))), (29, [], .v (.c (.p (.int .i64) (w.length : Int)))), (30, [], .v (.c (.p (.int .i64) v30))), (37, [], .v (.c (.p (.int .u32) ret37v)))], [(2, [], .box [.p (.int .i64) n.1, .p (.int .i64) n.2.1, .p (.sl (.pr (.int .i64) (.pr (.int .i64) (.int .i64)))) n.2.2.1, .p (.int .u32) n.2.2.2.1, .p (.int .u32) n.2.2.2.2])]⟩ : St)) (by kernel_rfl) rfl (by kernel_rfl) rfl (by kernel_rfl) Try.call46 (by kernel_rfl) (fun ret37v => by kernel_rfl) (fun e => by cases e) (fun hg => link46 n setv (w.getD (v30).toNat (0 : Int)) _ h) (fun hg => noF hg) (fun ret37v h => ?_)
          have h : (InR (v30 + (1 : Int)) ∧ X1 (ret37v, (v30 + (1 : Int)))) := h
          refine awl_runp 1 [2, 9, 28, 29, 30] [2] (ob := (True ∧ True)) (st' := (⟨45, [(2, [], .v (.c (.ptr 2 0))), (9, [], .v (.c (.p (.int .u32) ret37v))), (28, [], .v (.c (.p (.sl (.int .i64)) w))), (29, [], .v (.c (.p (.int .i64) (w.length : Int)))), (30, [], .v (.c (.p (.int .i64) v30)))], [(2, [], .box [.p (.int .i64) n.1, .p (.int .i64) n.2.1, .p (.sl (.pr (.int .i64) (.pr (.int .i64) (.int .i64)))) n.2.2.1, .p (.int .u32) n.2.2.2.1, .p (.int .u32) n.2.2.2.2])]⟩ : St)) (by kernel_rfl) ⟨trivial, trivial⟩ ?_
          refine awl_nil ?_
          refine blockQ_n ?_
          refine thenQ_n ?_
          refine aw_region ?_
          obtain ⟨o1, h⟩ := h
          refine awl_runp 2 [2, 9, 28, 29, 30] [2] (ob := (InR (v30 + (1 : Int)) ∧ True ∧ True)) (st' := (⟨45, [(2, [], .v (.c (.ptr 2 0))), (9, [], .v (.c (.p (.int .u32) ret37v))), (28, [], .v (.c (.p (.sl (.int .i64)) w))), (29, [], .v (.c (.p (.int .i64) (w.length : Int)))), (30, [], .v (.c (.p (.int .i64) (v30 + (1 : Int)))))], [(2, [], .box [.p (.int .i64) n.1, .p (.int .i64) n.2.1, .p (.sl (.pr (.int .i64) (.pr (.int .i64) (.int .i64)))) n.2.2.1, .p (.int .u32) n.2.2.2.1, .p (.int .u32) n.2.2.2.2])]⟩ : St)) (by kernel_rfl) ⟨o1, trivial, trivial⟩ ?_
          refine awl_nil ?_
          exact thenQ_n ⟨(ret37v, (v30 + (1 : Int))), rfl, h⟩
        · have h := h.2 hb
          refine aw_conv [.prune [2, 9] [2]] (st' := (⟨45, [(2, [], .v (.c (.ptr 2 0))), (9, [], .v (.c (.p (.int .u32) setv)))], [(2, [], .box [.p (.int .i64) n.1, .p (.int .i64) n.2.1, .p (.sl (.pr (.int .i64) (.pr (.int .i64) (.int .i64)))) n.2.2.1, .p (.int .u32) n.2.2.2.1, .p (.int .u32) n.2.2.2.2])]⟩ : St)) (by kernel_rfl) ?_
          refine aw_exit ?_
          refine thenQ_x ?_
          refine thenQ_x ?_
          refine blockQ_hit ?_
          exact rest1 setv h

end Dec
