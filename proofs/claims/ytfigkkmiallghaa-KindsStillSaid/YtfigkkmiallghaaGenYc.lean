/-
  Printed by dec2.py: of each function its plain demand, and that the demand gives the contract.
-/
import Derived.Test.YtfigkkmiallghaaGenYb
set_option linter.unusedVariables false
set_option linter.unusedSimpArgs false
set_option maxRecDepth 100000
namespace Dec
open Go Go.RowKit Go.Proofs

-- coppicer/kinds.classes
def VC59 (m : (Int × (Int × ((List (List Int)) × (Int × Int))))) (K : (List (List Int)) × Int → Prop) : Prop :=
  VC25 m (fun (ret10v : (Int × (Int × ((List (List Int)) × (Int × Int)))) × Int) => (((!decide (ret10v.2 = (0 : Int))) = true → K (([] : (List (List Int))), ret10v.2)) ∧ ((!decide (ret10v.2 = (0 : Int))) = false → VC71 ret10v.1 (fun (ret18v : (List (List Int)) × Bool) => (((!ret18v.2) = true → K (([] : (List (List Int))), (1 : Int))) ∧ ((!ret18v.2) = false → K (ret18v.1, (0 : Int))))))))

set_option maxHeartbeats 4000000 in
theorem link59 (m : (Int × (Int × ((List (List Int)) × (Int × Int))))) (K : (List (List Int)) × Int → Prop) (h : VC59 m K) : ACalls Try.prog 59 [toV1 (.pr (.int .i64) (.pr (.int .i64) (.pr (.sl (.sl (.int .i64))) (.pr (.int .i64) (.int .u32))))) m] (fun res => ∃ y, res = (fun y => [toV1 (.sl (.ar 6 (.int .i64))) y.1, toV1 (.int .i64) y.2]) y ∧ K y) := by
  refine acalls_of_aw [(.sl (.ar 6 (.int .i64))), (.int .i64)] [.t 2, .t 3] Try.func59 rfl rfl rfl ?_
  unfold VC59 at h
  refine aw_seq ?_
  refine aw_region ?_
  refine awl_runp 3 [1] [1] (ob := (True ∧ True ∧ True ∧ True)) (st' := (⟨24, [(1, [], .v (.c (.ptr 1 0)))], [(1, [], .box [.p (.int .i64) m.1, .p (.int .i64) m.2.1, .p (.sl (.sl (.int .i64))) m.2.2.1, .p (.int .i64) m.2.2.2.1, .p (.int .u32) m.2.2.2.2])]⟩ : St)) (by kernel_rfl) ⟨trivial, trivial, trivial, trivial⟩ ?_
  refine awl_nil ?_
  refine thenQ_n ?_
  refine aw_seq ?_
  refine aw_region ?_
  refine awl_runp 1 [9] [] (ob := (True ∧ True)) (st' := (⟨24, [(9, [], .v (.agg [.p (.int .i64) m.1, .p (.int .i64) m.2.1, .p (.sl (.sl (.int .i64))) m.2.2.1, .p (.int .i64) m.2.2.2.1, .p (.int .u32) m.2.2.2.2]))], []⟩ : St)) (by kernel_rfl) ⟨trivial, trivial⟩ ?_
  refine awl_callk (p := []) (l := [toV1 (.pr (.int .i64) (.pr (.int .i64) (.pr (.sl (.sl (.int .i64))) (.pr (.int .i64) (.int .u32))))) m]) (cl := []) false [.d (.pr (.int .i64) (.pr (.int .i64) (.pr (.sl (.sl (.int .i64))) (.pr (.int .i64) (.int .u32)))))] [10] [] (fun (ret10v : (Int × (Int × ((List (List Int)) × (Int × Int)))) × Int) => (((!decide (ret10v.2 = (0 : Int))) = true → K (([] : (List (List Int))), ret10v.2)) ∧ ((!decide (ret10v.2 = (0 : Int))) = false → VC71 ret10v.1 (fun (ret18v : (List (List Int)) × Bool) => (((!ret18v.2) = true → K (([] : (List (List Int))), (1 : Int))) ∧ ((!ret18v.2) = false → K (ret18v.1, (0 : Int)))))))) (fun ret10v => [toV1 (.pr (.int .i64) (.pr (.int .i64) (.pr (.sl (.sl (.int .i64))) (.pr (.int .i64) (.int .u32))))) ret10v.1, toV1 (.int .i64) ret10v.2]) (fun ret10v => (⟨24, [(10, [], .tup [.agg [.p (.int .i64) ret10v.1.1, .p (.int .i64) ret10v.1.2.1, .p (.sl (.sl (.int .i64))) ret10v.1.2.2.1, .p (.int .i64) ret10v.1.2.2.2.1, .p (.int .u32) ret10v.1.2.2.2.2], .c (.p (.int .i64) ret10v.2)])], []⟩ : St)) (by kernel_rfl) rfl (by kernel_rfl) rfl (by kernel_rfl) Try.call25 (by kernel_rfl) (fun ret10v => by kernel_rfl) (fun e => by cases e) (fun hg => link25 m _ h) (fun hg => noF hg) (fun ret10v h => ?_)
  have h : (((!decide (ret10v.2 = (0 : Int))) = true → K (([] : (List (List Int))), ret10v.2)) ∧ ((!decide (ret10v.2 = (0 : Int))) = false → VC71 ret10v.1 (fun (ret18v : (List (List Int)) × Bool) => (((!ret18v.2) = true → K (([] : (List (List Int))), (1 : Int))) ∧ ((!ret18v.2) = false → K (ret18v.1, (0 : Int))))))) := h
  refine awl_runp 6 [4, 5] [4] (ob := (True ∧ True ∧ True ∧ True ∧ True ∧ True ∧ True)) (st' := (⟨24, [(4, [], .v (.c (.ptr 4 0))), (5, [], .v (.c (.p (.int .i64) ret10v.2)))], [(4, [], .box [.p (.int .i64) ret10v.1.1, .p (.int .i64) ret10v.1.2.1, .p (.sl (.sl (.int .i64))) ret10v.1.2.2.1, .p (.int .i64) ret10v.1.2.2.2.1, .p (.int .u32) ret10v.1.2.2.2.2])]⟩ : St)) (by kernel_rfl) ⟨trivial, trivial, trivial, trivial, trivial, trivial, trivial⟩ ?_
  refine awl_nil ?_
  refine thenQ_n ?_
  refine aw_seq ?_
  refine aw_seq ?_
  refine aw_region ?_
  refine awl_runp 2 [4, 5, 14] [4] (ob := (True ∧ True ∧ True)) (st' := (⟨24, [(4, [], .v (.c (.ptr 4 0))), (5, [], .v (.c (.p (.int .i64) ret10v.2))), (14, [], .v (.c (.p .bool (!decide (ret10v.2 = (0 : Int))))))], [(4, [], .box [.p (.int .i64) ret10v.1.1, .p (.int .i64) ret10v.1.2.1, .p (.sl (.sl (.int .i64))) ret10v.1.2.2.1, .p (.int .i64) ret10v.1.2.2.2.1, .p (.int .u32) ret10v.1.2.2.2.2])]⟩ : St)) (by kernel_rfl) ⟨trivial, trivial, trivial⟩ ?_
  refine awl_nil ?_
  refine thenQ_n ?_
  refine aw_cond (b := (!decide (ret10v.2 = (0 : Int)))) (by kernel_rfl) (fun hb => ?_) (fun hb => ?_)
  · have h := h.1 hb
    refine aw_seq ?_
    refine aw_region ?_
    refine awl_runp 3 [2, 3] [] (ob := (True ∧ True ∧ True ∧ True)) (st' := (⟨24, [(2, [], .v (.c (.nils))), (3, [], .v (.c (.p (.int .i64) ret10v.2)))], []⟩ : St)) (by kernel_rfl) ⟨trivial, trivial, trivial, trivial⟩ ?_
    refine awl_nil ?_
    refine thenQ_n ?_
    refine aw_ret ?_
    refine thenQ_r ?_
    exact retQ_r (σ := (List (List Int)) × Int) (R := (fun y => [toV1 (.sl (.ar 6 (.int .i64))) y.1, toV1 (.int .i64) y.2])) (ob := (True ∧ True ∧ True)) (([] : (List (List Int))), ret10v.2) (by kernel_rfl) ⟨trivial, trivial, trivial⟩ h
  · have h := h.2 hb
    refine aw_skip ?_
    refine thenQ_n ?_
    refine aw_seq ?_
    refine aw_region ?_
    refine awl_runp 1 [17] [] (ob := (True ∧ True)) (st' := (⟨24, [(17, [], .v (.agg [.p (.int .i64) ret10v.1.1, .p (.int .i64) ret10v.1.2.1, .p (.sl (.sl (.int .i64))) ret10v.1.2.2.1, .p (.int .i64) ret10v.1.2.2.2.1, .p (.int .u32) ret10v.1.2.2.2.2]))], []⟩ : St)) (by kernel_rfl) ⟨trivial, trivial⟩ ?_
    refine awl_callk (p := []) (l := [toV1 (.pr (.int .i64) (.pr (.int .i64) (.pr (.sl (.sl (.int .i64))) (.pr (.int .i64) (.int .u32))))) ret10v.1]) (cl := []) false [.d (.pr (.int .i64) (.pr (.int .i64) (.pr (.sl (.sl (.int .i64))) (.pr (.int .i64) (.int .u32)))))] [18] [] (fun (ret18v : (List (List Int)) × Bool) => (((!ret18v.2) = true → K (([] : (List (List Int))), (1 : Int))) ∧ ((!ret18v.2) = false → K (ret18v.1, (0 : Int))))) (fun ret18v => [toV1 (.sl (.ar 6 (.int .i64))) ret18v.1, toV1 .bool ret18v.2]) (fun ret18v => (⟨24, [(18, [], .tup [.c (.p (.sl (.ar 6 (.int .i64))) ret18v.1), .c (.p .bool ret18v.2)])], []⟩ : St)) (by kernel_rfl) rfl (by kernel_rfl) rfl (by kernel_rfl) Try.call71 (by kernel_rfl) (fun ret18v => by kernel_rfl) (fun e => by cases e) (fun hg => link71 ret10v.1 _ h) (fun hg => noF hg) (fun ret18v h => ?_)
    have h : (((!ret18v.2) = true → K (([] : (List (List Int))), (1 : Int))) ∧ ((!ret18v.2) = false → K (ret18v.1, (0 : Int)))) := h
    refine awl_runp 5 [6, 7] [] (ob := (True ∧ True ∧ True ∧ True ∧ True ∧ True)) (st' := (⟨24, [(6, [], .v (.c (.p (.sl (.ar 6 (.int .i64))) ret18v.1))), (7, [], .v (.c (.p .bool ret18v.2)))], []⟩ : St)) (by kernel_rfl) ⟨trivial, trivial, trivial, trivial, trivial, trivial⟩ ?_
    refine awl_nil ?_
    refine thenQ_n ?_
    refine aw_seq ?_
    refine aw_seq ?_
    refine aw_region ?_
    refine awl_runp 2 [6, 22] [] (ob := (True ∧ True ∧ True)) (st' := (⟨24, [(6, [], .v (.c (.p (.sl (.ar 6 (.int .i64))) ret18v.1))), (22, [], .v (.c (.p .bool (!ret18v.2))))], []⟩ : St)) (by kernel_rfl) ⟨trivial, trivial, trivial⟩ ?_
    refine awl_nil ?_
    refine thenQ_n ?_
    refine aw_cond (b := (!ret18v.2)) (by kernel_rfl) (fun hb => ?_) (fun hb => ?_)
    · have h := h.1 hb
      refine aw_seq ?_
      refine aw_region ?_
      refine awl_runp 2 [2, 3] [] (ob := (True ∧ True ∧ True)) (st' := (⟨24, [(2, [], .v (.c (.nils))), (3, [], .v (.c (.p (.int .i64) (1 : Int))))], []⟩ : St)) (by kernel_rfl) ⟨trivial, trivial, trivial⟩ ?_
      refine awl_nil ?_
      refine thenQ_n ?_
      refine aw_ret ?_
      refine thenQ_r ?_
      exact retQ_r (σ := (List (List Int)) × Int) (R := (fun y => [toV1 (.sl (.ar 6 (.int .i64))) y.1, toV1 (.int .i64) y.2])) (ob := (True ∧ True ∧ True)) (([] : (List (List Int))), (1 : Int)) (by kernel_rfl) ⟨trivial, trivial, trivial⟩ h
    · have h := h.2 hb
      refine aw_skip ?_
      refine thenQ_n ?_
      refine aw_seq ?_
      refine aw_region ?_
      refine awl_runp 3 [2, 3] [] (ob := (True ∧ True ∧ True ∧ True)) (st' := (⟨24, [(2, [], .v (.c (.p (.sl (.ar 6 (.int .i64))) ret18v.1))), (3, [], .v (.c (.p (.int .i64) (0 : Int))))], []⟩ : St)) (by kernel_rfl) ⟨trivial, trivial, trivial, trivial⟩ ?_
      refine awl_nil ?_
      refine thenQ_n ?_
      refine aw_ret ?_
      exact retQ_r (σ := (List (List Int)) × Int) (R := (fun y => [toV1 (.sl (.ar 6 (.int .i64))) y.1, toV1 (.int .i64) y.2])) (ob := (True ∧ True ∧ True)) (ret18v.1, (0 : Int)) (by kernel_rfl) ⟨trivial, trivial, trivial⟩ h

-- coppicer/kinds.Still
def VC37_k1 (K : Bool × Int → Prop) : Prop :=
  K (true, (0 : Int))

def VC37_k2 (K : Bool × Int → Prop) (ret11v : (List (List Int)) × Int) (v19 : Int) (X1 : Int → Prop) (power : (List Int)) : Prop :=
  VC60 [(power.getD 0 (0 : Int)), (power.getD 1 (0 : Int)), (power.getD 2 (0 : Int)), (power.getD 3 (0 : Int)), (power.getD 4 (0 : Int)), (power.getD 5 (0 : Int)), (power.getD 6 (0 : Int))] [([((ret11v.1.getD (v19).toNat (List.replicate 7 (0 : Int))).getD 0 (0 : Int)), ((ret11v.1.getD (v19).toNat (List.replicate 7 (0 : Int))).getD 1 (0 : Int)), ((ret11v.1.getD (v19).toNat (List.replicate 7 (0 : Int))).getD 2 (0 : Int)), ((ret11v.1.getD (v19).toNat (List.replicate 7 (0 : Int))).getD 3 (0 : Int)), ((ret11v.1.getD (v19).toNat (List.replicate 7 (0 : Int))).getD 4 (0 : Int)), ((ret11v.1.getD (v19).toNat (List.replicate 7 (0 : Int))).getD 5 (0 : Int)), ((ret11v.1.getD (v19).toNat (List.replicate 7 (0 : Int))).getD 6 (0 : Int))].getD 0 (0 : Int)), ([((ret11v.1.getD (v19).toNat (List.replicate 7 (0 : Int))).getD 0 (0 : Int)), ((ret11v.1.getD (v19).toNat (List.replicate 7 (0 : Int))).getD 1 (0 : Int)), ((ret11v.1.getD (v19).toNat (List.replicate 7 (0 : Int))).getD 2 (0 : Int)), ((ret11v.1.getD (v19).toNat (List.replicate 7 (0 : Int))).getD 3 (0 : Int)), ((ret11v.1.getD (v19).toNat (List.replicate 7 (0 : Int))).getD 4 (0 : Int)), ((ret11v.1.getD (v19).toNat (List.replicate 7 (0 : Int))).getD 5 (0 : Int)), ((ret11v.1.getD (v19).toNat (List.replicate 7 (0 : Int))).getD 6 (0 : Int))].getD 1 (0 : Int)), ([((ret11v.1.getD (v19).toNat (List.replicate 7 (0 : Int))).getD 0 (0 : Int)), ((ret11v.1.getD (v19).toNat (List.replicate 7 (0 : Int))).getD 1 (0 : Int)), ((ret11v.1.getD (v19).toNat (List.replicate 7 (0 : Int))).getD 2 (0 : Int)), ((ret11v.1.getD (v19).toNat (List.replicate 7 (0 : Int))).getD 3 (0 : Int)), ((ret11v.1.getD (v19).toNat (List.replicate 7 (0 : Int))).getD 4 (0 : Int)), ((ret11v.1.getD (v19).toNat (List.replicate 7 (0 : Int))).getD 5 (0 : Int)), ((ret11v.1.getD (v19).toNat (List.replicate 7 (0 : Int))).getD 6 (0 : Int))].getD 2 (0 : Int)), ([((ret11v.1.getD (v19).toNat (List.replicate 7 (0 : Int))).getD 0 (0 : Int)), ((ret11v.1.getD (v19).toNat (List.replicate 7 (0 : Int))).getD 1 (0 : Int)), ((ret11v.1.getD (v19).toNat (List.replicate 7 (0 : Int))).getD 2 (0 : Int)), ((ret11v.1.getD (v19).toNat (List.replicate 7 (0 : Int))).getD 3 (0 : Int)), ((ret11v.1.getD (v19).toNat (List.replicate 7 (0 : Int))).getD 4 (0 : Int)), ((ret11v.1.getD (v19).toNat (List.replicate 7 (0 : Int))).getD 5 (0 : Int)), ((ret11v.1.getD (v19).toNat (List.replicate 7 (0 : Int))).getD 6 (0 : Int))].getD 3 (0 : Int)), ([((ret11v.1.getD (v19).toNat (List.replicate 7 (0 : Int))).getD 0 (0 : Int)), ((ret11v.1.getD (v19).toNat (List.replicate 7 (0 : Int))).getD 1 (0 : Int)), ((ret11v.1.getD (v19).toNat (List.replicate 7 (0 : Int))).getD 2 (0 : Int)), ((ret11v.1.getD (v19).toNat (List.replicate 7 (0 : Int))).getD 3 (0 : Int)), ((ret11v.1.getD (v19).toNat (List.replicate 7 (0 : Int))).getD 4 (0 : Int)), ((ret11v.1.getD (v19).toNat (List.replicate 7 (0 : Int))).getD 5 (0 : Int)), ((ret11v.1.getD (v19).toNat (List.replicate 7 (0 : Int))).getD 6 (0 : Int))].getD 4 (0 : Int)), ([((ret11v.1.getD (v19).toNat (List.replicate 7 (0 : Int))).getD 0 (0 : Int)), ((ret11v.1.getD (v19).toNat (List.replicate 7 (0 : Int))).getD 1 (0 : Int)), ((ret11v.1.getD (v19).toNat (List.replicate 7 (0 : Int))).getD 2 (0 : Int)), ((ret11v.1.getD (v19).toNat (List.replicate 7 (0 : Int))).getD 3 (0 : Int)), ((ret11v.1.getD (v19).toNat (List.replicate 7 (0 : Int))).getD 4 (0 : Int)), ((ret11v.1.getD (v19).toNat (List.replicate 7 (0 : Int))).getD 5 (0 : Int)), ((ret11v.1.getD (v19).toNat (List.replicate 7 (0 : Int))).getD 6 (0 : Int))].getD 5 (0 : Int)), ([((ret11v.1.getD (v19).toNat (List.replicate 7 (0 : Int))).getD 0 (0 : Int)), ((ret11v.1.getD (v19).toNat (List.replicate 7 (0 : Int))).getD 1 (0 : Int)), ((ret11v.1.getD (v19).toNat (List.replicate 7 (0 : Int))).getD 2 (0 : Int)), ((ret11v.1.getD (v19).toNat (List.replicate 7 (0 : Int))).getD 3 (0 : Int)), ((ret11v.1.getD (v19).toNat (List.replicate 7 (0 : Int))).getD 4 (0 : Int)), ((ret11v.1.getD (v19).toNat (List.replicate 7 (0 : Int))).getD 5 (0 : Int)), ((ret11v.1.getD (v19).toNat (List.replicate 7 (0 : Int))).getD 6 (0 : Int))].getD 6 (0 : Int))] (fun (ret32v : (List Int)) => (((!(decide ([(ret32v.getD 0 (0 : Int)), (ret32v.getD 1 (0 : Int)), (ret32v.getD 2 (0 : Int)), (ret32v.getD 3 (0 : Int)), (ret32v.getD 4 (0 : Int)), (ret32v.getD 5 (0 : Int)), (ret32v.getD 6 (0 : Int))] = [(power.getD 0 (0 : Int)), (power.getD 1 (0 : Int)), (power.getD 2 (0 : Int)), (power.getD 3 (0 : Int)), (power.getD 4 (0 : Int)), (power.getD 5 (0 : Int)), (power.getD 6 (0 : Int))]))) = true → K (false, (0 : Int))) ∧ ((!(decide ([(ret32v.getD 0 (0 : Int)), (ret32v.getD 1 (0 : Int)), (ret32v.getD 2 (0 : Int)), (ret32v.getD 3 (0 : Int)), (ret32v.getD 4 (0 : Int)), (ret32v.getD 5 (0 : Int)), (ret32v.getD 6 (0 : Int))] = [(power.getD 0 (0 : Int)), (power.getD 1 (0 : Int)), (power.getD 2 (0 : Int)), (power.getD 3 (0 : Int)), (power.getD 4 (0 : Int)), (power.getD 5 (0 : Int)), (power.getD 6 (0 : Int))]))) = false → (InR (v19 + (1 : Int)) ∧ X1 (v19 + (1 : Int))))))

def VC37_l2 (K : Bool × Int → Prop) (ret11v : (List (List Int)) × Int) (v19 : Int) (X1 : Int → Prop) (v24 : Int) (power : (List Int)) (X2 : Int × (List Int) → Prop) : Prop :=
  (((decide (v24 < (100 : Int))) = true → VC60 [(power.getD 0 (0 : Int)), (power.getD 1 (0 : Int)), (power.getD 2 (0 : Int)), (power.getD 3 (0 : Int)), (power.getD 4 (0 : Int)), (power.getD 5 (0 : Int)), (power.getD 6 (0 : Int))] [([((ret11v.1.getD (v19).toNat (List.replicate 7 (0 : Int))).getD 0 (0 : Int)), ((ret11v.1.getD (v19).toNat (List.replicate 7 (0 : Int))).getD 1 (0 : Int)), ((ret11v.1.getD (v19).toNat (List.replicate 7 (0 : Int))).getD 2 (0 : Int)), ((ret11v.1.getD (v19).toNat (List.replicate 7 (0 : Int))).getD 3 (0 : Int)), ((ret11v.1.getD (v19).toNat (List.replicate 7 (0 : Int))).getD 4 (0 : Int)), ((ret11v.1.getD (v19).toNat (List.replicate 7 (0 : Int))).getD 5 (0 : Int)), ((ret11v.1.getD (v19).toNat (List.replicate 7 (0 : Int))).getD 6 (0 : Int))].getD 0 (0 : Int)), ([((ret11v.1.getD (v19).toNat (List.replicate 7 (0 : Int))).getD 0 (0 : Int)), ((ret11v.1.getD (v19).toNat (List.replicate 7 (0 : Int))).getD 1 (0 : Int)), ((ret11v.1.getD (v19).toNat (List.replicate 7 (0 : Int))).getD 2 (0 : Int)), ((ret11v.1.getD (v19).toNat (List.replicate 7 (0 : Int))).getD 3 (0 : Int)), ((ret11v.1.getD (v19).toNat (List.replicate 7 (0 : Int))).getD 4 (0 : Int)), ((ret11v.1.getD (v19).toNat (List.replicate 7 (0 : Int))).getD 5 (0 : Int)), ((ret11v.1.getD (v19).toNat (List.replicate 7 (0 : Int))).getD 6 (0 : Int))].getD 1 (0 : Int)), ([((ret11v.1.getD (v19).toNat (List.replicate 7 (0 : Int))).getD 0 (0 : Int)), ((ret11v.1.getD (v19).toNat (List.replicate 7 (0 : Int))).getD 1 (0 : Int)), ((ret11v.1.getD (v19).toNat (List.replicate 7 (0 : Int))).getD 2 (0 : Int)), ((ret11v.1.getD (v19).toNat (List.replicate 7 (0 : Int))).getD 3 (0 : Int)), ((ret11v.1.getD (v19).toNat (List.replicate 7 (0 : Int))).getD 4 (0 : Int)), ((ret11v.1.getD (v19).toNat (List.replicate 7 (0 : Int))).getD 5 (0 : Int)), ((ret11v.1.getD (v19).toNat (List.replicate 7 (0 : Int))).getD 6 (0 : Int))].getD 2 (0 : Int)), ([((ret11v.1.getD (v19).toNat (List.replicate 7 (0 : Int))).getD 0 (0 : Int)), ((ret11v.1.getD (v19).toNat (List.replicate 7 (0 : Int))).getD 1 (0 : Int)), ((ret11v.1.getD (v19).toNat (List.replicate 7 (0 : Int))).getD 2 (0 : Int)), ((ret11v.1.getD (v19).toNat (List.replicate 7 (0 : Int))).getD 3 (0 : Int)), ((ret11v.1.getD (v19).toNat (List.replicate 7 (0 : Int))).getD 4 (0 : Int)), ((ret11v.1.getD (v19).toNat (List.replicate 7 (0 : Int))).getD 5 (0 : Int)), ((ret11v.1.getD (v19).toNat (List.replicate 7 (0 : Int))).getD 6 (0 : Int))].getD 3 (0 : Int)), ([((ret11v.1.getD (v19).toNat (List.replicate 7 (0 : Int))).getD 0 (0 : Int)), ((ret11v.1.getD (v19).toNat (List.replicate 7 (0 : Int))).getD 1 (0 : Int)), ((ret11v.1.getD (v19).toNat (List.replicate 7 (0 : Int))).getD 2 (0 : Int)), ((ret11v.1.getD (v19).toNat (List.replicate 7 (0 : Int))).getD 3 (0 : Int)), ((ret11v.1.getD (v19).toNat (List.replicate 7 (0 : Int))).getD 4 (0 : Int)), ((ret11v.1.getD (v19).toNat (List.replicate 7 (0 : Int))).getD 5 (0 : Int)), ((ret11v.1.getD (v19).toNat (List.replicate 7 (0 : Int))).getD 6 (0 : Int))].getD 4 (0 : Int)), ([((ret11v.1.getD (v19).toNat (List.replicate 7 (0 : Int))).getD 0 (0 : Int)), ((ret11v.1.getD (v19).toNat (List.replicate 7 (0 : Int))).getD 1 (0 : Int)), ((ret11v.1.getD (v19).toNat (List.replicate 7 (0 : Int))).getD 2 (0 : Int)), ((ret11v.1.getD (v19).toNat (List.replicate 7 (0 : Int))).getD 3 (0 : Int)), ((ret11v.1.getD (v19).toNat (List.replicate 7 (0 : Int))).getD 4 (0 : Int)), ((ret11v.1.getD (v19).toNat (List.replicate 7 (0 : Int))).getD 5 (0 : Int)), ((ret11v.1.getD (v19).toNat (List.replicate 7 (0 : Int))).getD 6 (0 : Int))].getD 5 (0 : Int)), ([((ret11v.1.getD (v19).toNat (List.replicate 7 (0 : Int))).getD 0 (0 : Int)), ((ret11v.1.getD (v19).toNat (List.replicate 7 (0 : Int))).getD 1 (0 : Int)), ((ret11v.1.getD (v19).toNat (List.replicate 7 (0 : Int))).getD 2 (0 : Int)), ((ret11v.1.getD (v19).toNat (List.replicate 7 (0 : Int))).getD 3 (0 : Int)), ((ret11v.1.getD (v19).toNat (List.replicate 7 (0 : Int))).getD 4 (0 : Int)), ((ret11v.1.getD (v19).toNat (List.replicate 7 (0 : Int))).getD 5 (0 : Int)), ((ret11v.1.getD (v19).toNat (List.replicate 7 (0 : Int))).getD 6 (0 : Int))].getD 6 (0 : Int))] (fun (ret28v : (List Int)) => (InR (v24 + (1 : Int)) ∧ X2 ((v24 + (1 : Int)), [(ret28v.getD 0 (0 : Int)), (ret28v.getD 1 (0 : Int)), (ret28v.getD 2 (0 : Int)), (ret28v.getD 3 (0 : Int)), (ret28v.getD 4 (0 : Int)), (ret28v.getD 5 (0 : Int)), (ret28v.getD 6 (0 : Int))])))) ∧ ((decide (v24 < (100 : Int))) = false → VC37_k2 K ret11v v19 X1 power))

def VC37_l1 (K : Bool × Int → Prop) (ret11v : (List (List Int)) × Int) (v19 : Int) (X1 : Int → Prop) : Prop :=
  (((decide (v19 < (ret11v.1.length : Int))) = true → (inIdx v19 ret11v.1.length ∧ Loop (σ := Int × (List Int)) (fun s X => VC37_l2 K ret11v v19 X1 s.1 s.2 X) ((0 : Int), [([((ret11v.1.getD (v19).toNat (List.replicate 7 (0 : Int))).getD 0 (0 : Int)), ((ret11v.1.getD (v19).toNat (List.replicate 7 (0 : Int))).getD 1 (0 : Int)), ((ret11v.1.getD (v19).toNat (List.replicate 7 (0 : Int))).getD 2 (0 : Int)), ((ret11v.1.getD (v19).toNat (List.replicate 7 (0 : Int))).getD 3 (0 : Int)), ((ret11v.1.getD (v19).toNat (List.replicate 7 (0 : Int))).getD 4 (0 : Int)), ((ret11v.1.getD (v19).toNat (List.replicate 7 (0 : Int))).getD 5 (0 : Int)), ((ret11v.1.getD (v19).toNat (List.replicate 7 (0 : Int))).getD 6 (0 : Int))].getD 0 (0 : Int)), ([((ret11v.1.getD (v19).toNat (List.replicate 7 (0 : Int))).getD 0 (0 : Int)), ((ret11v.1.getD (v19).toNat (List.replicate 7 (0 : Int))).getD 1 (0 : Int)), ((ret11v.1.getD (v19).toNat (List.replicate 7 (0 : Int))).getD 2 (0 : Int)), ((ret11v.1.getD (v19).toNat (List.replicate 7 (0 : Int))).getD 3 (0 : Int)), ((ret11v.1.getD (v19).toNat (List.replicate 7 (0 : Int))).getD 4 (0 : Int)), ((ret11v.1.getD (v19).toNat (List.replicate 7 (0 : Int))).getD 5 (0 : Int)), ((ret11v.1.getD (v19).toNat (List.replicate 7 (0 : Int))).getD 6 (0 : Int))].getD 1 (0 : Int)), ([((ret11v.1.getD (v19).toNat (List.replicate 7 (0 : Int))).getD 0 (0 : Int)), ((ret11v.1.getD (v19).toNat (List.replicate 7 (0 : Int))).getD 1 (0 : Int)), ((ret11v.1.getD (v19).toNat (List.replicate 7 (0 : Int))).getD 2 (0 : Int)), ((ret11v.1.getD (v19).toNat (List.replicate 7 (0 : Int))).getD 3 (0 : Int)), ((ret11v.1.getD (v19).toNat (List.replicate 7 (0 : Int))).getD 4 (0 : Int)), ((ret11v.1.getD (v19).toNat (List.replicate 7 (0 : Int))).getD 5 (0 : Int)), ((ret11v.1.getD (v19).toNat (List.replicate 7 (0 : Int))).getD 6 (0 : Int))].getD 2 (0 : Int)), ([((ret11v.1.getD (v19).toNat (List.replicate 7 (0 : Int))).getD 0 (0 : Int)), ((ret11v.1.getD (v19).toNat (List.replicate 7 (0 : Int))).getD 1 (0 : Int)), ((ret11v.1.getD (v19).toNat (List.replicate 7 (0 : Int))).getD 2 (0 : Int)), ((ret11v.1.getD (v19).toNat (List.replicate 7 (0 : Int))).getD 3 (0 : Int)), ((ret11v.1.getD (v19).toNat (List.replicate 7 (0 : Int))).getD 4 (0 : Int)), ((ret11v.1.getD (v19).toNat (List.replicate 7 (0 : Int))).getD 5 (0 : Int)), ((ret11v.1.getD (v19).toNat (List.replicate 7 (0 : Int))).getD 6 (0 : Int))].getD 3 (0 : Int)), ([((ret11v.1.getD (v19).toNat (List.replicate 7 (0 : Int))).getD 0 (0 : Int)), ((ret11v.1.getD (v19).toNat (List.replicate 7 (0 : Int))).getD 1 (0 : Int)), ((ret11v.1.getD (v19).toNat (List.replicate 7 (0 : Int))).getD 2 (0 : Int)), ((ret11v.1.getD (v19).toNat (List.replicate 7 (0 : Int))).getD 3 (0 : Int)), ((ret11v.1.getD (v19).toNat (List.replicate 7 (0 : Int))).getD 4 (0 : Int)), ((ret11v.1.getD (v19).toNat (List.replicate 7 (0 : Int))).getD 5 (0 : Int)), ((ret11v.1.getD (v19).toNat (List.replicate 7 (0 : Int))).getD 6 (0 : Int))].getD 4 (0 : Int)), ([((ret11v.1.getD (v19).toNat (List.replicate 7 (0 : Int))).getD 0 (0 : Int)), ((ret11v.1.getD (v19).toNat (List.replicate 7 (0 : Int))).getD 1 (0 : Int)), ((ret11v.1.getD (v19).toNat (List.replicate 7 (0 : Int))).getD 2 (0 : Int)), ((ret11v.1.getD (v19).toNat (List.replicate 7 (0 : Int))).getD 3 (0 : Int)), ((ret11v.1.getD (v19).toNat (List.replicate 7 (0 : Int))).getD 4 (0 : Int)), ((ret11v.1.getD (v19).toNat (List.replicate 7 (0 : Int))).getD 5 (0 : Int)), ((ret11v.1.getD (v19).toNat (List.replicate 7 (0 : Int))).getD 6 (0 : Int))].getD 5 (0 : Int)), ([((ret11v.1.getD (v19).toNat (List.replicate 7 (0 : Int))).getD 0 (0 : Int)), ((ret11v.1.getD (v19).toNat (List.replicate 7 (0 : Int))).getD 1 (0 : Int)), ((ret11v.1.getD (v19).toNat (List.replicate 7 (0 : Int))).getD 2 (0 : Int)), ((ret11v.1.getD (v19).toNat (List.replicate 7 (0 : Int))).getD 3 (0 : Int)), ((ret11v.1.getD (v19).toNat (List.replicate 7 (0 : Int))).getD 4 (0 : Int)), ((ret11v.1.getD (v19).toNat (List.replicate 7 (0 : Int))).getD 5 (0 : Int)), ((ret11v.1.getD (v19).toNat (List.replicate 7 (0 : Int))).getD 6 (0 : Int))].getD 6 (0 : Int))]))) ∧ ((decide (v19 < (ret11v.1.length : Int))) = false → VC37_k1 K))

def VC37 (m : (Int × (Int × ((List (List Int)) × (Int × Int))))) (K : Bool × Int → Prop) : Prop :=
  VC59 m (fun (ret11v : (List (List Int)) × Int) => (((!decide (ret11v.2 = (0 : Int))) = true → K (false, ret11v.2)) ∧ ((!decide (ret11v.2 = (0 : Int))) = false → Loop (σ := Int) (fun s X => VC37_l1 K ret11v s X) (0 : Int))))

set_option maxHeartbeats 4000000 in
theorem link37 (m : (Int × (Int × ((List (List Int)) × (Int × Int))))) (K : Bool × Int → Prop) (h : VC37 m K) : ACalls Try.prog 37 [toV1 (.pr (.int .i64) (.pr (.int .i64) (.pr (.sl (.sl (.int .i64))) (.pr (.int .i64) (.int .u32))))) m] (fun res => ∃ y, res = (fun y => [toV1 .bool y.1, toV1 (.int .i64) y.2]) y ∧ K y) := by
  refine acalls_of_aw [.bool, (.int .i64)] [.t 2, .t 3] Try.func37 rfl rfl rfl ?_
  unfold VC37 at h
  refine aw_seq ?_
  refine aw_region ?_
  refine awl_runp 3 [1] [1] (ob := (True ∧ True ∧ True ∧ True)) (st' := (⟨36, [(1, [], .v (.c (.ptr 1 0)))], [(1, [], .box [.p (.int .i64) m.1, .p (.int .i64) m.2.1, .p (.sl (.sl (.int .i64))) m.2.2.1, .p (.int .i64) m.2.2.2.1, .p (.int .u32) m.2.2.2.2])]⟩ : St)) (by kernel_rfl) ⟨trivial, trivial, trivial, trivial⟩ ?_
  refine awl_nil ?_
  refine thenQ_n ?_
  refine aw_seq ?_
  refine aw_region ?_
  refine awl_runp 1 [10] [] (ob := (True ∧ True)) (st' := (⟨36, [(10, [], .v (.agg [.p (.int .i64) m.1, .p (.int .i64) m.2.1, .p (.sl (.sl (.int .i64))) m.2.2.1, .p (.int .i64) m.2.2.2.1, .p (.int .u32) m.2.2.2.2]))], []⟩ : St)) (by kernel_rfl) ⟨trivial, trivial⟩ ?_
  refine awl_callk (p := []) (l := [toV1 (.pr (.int .i64) (.pr (.int .i64) (.pr (.sl (.sl (.int .i64))) (.pr (.int .i64) (.int .u32))))) m]) (cl := []) false [.d (.pr (.int .i64) (.pr (.int .i64) (.pr (.sl (.sl (.int .i64))) (.pr (.int .i64) (.int .u32)))))] [11] [] (fun (ret11v : (List (List Int)) × Int) => (((!decide (ret11v.2 = (0 : Int))) = true → K (false, ret11v.2)) ∧ ((!decide (ret11v.2 = (0 : Int))) = false → Loop (σ := Int) (fun s X => VC37_l1 K ret11v s X) (0 : Int)))) (fun ret11v => [toV1 (.sl (.ar 6 (.int .i64))) ret11v.1, toV1 (.int .i64) ret11v.2]) (fun ret11v => (⟨36, [(11, [], .tup [.c (.p (.sl (.ar 6 (.int .i64))) ret11v.1), .c (.p (.int .i64) ret11v.2)])], []⟩ : St)) (by kernel_rfl) rfl (by kernel_rfl) rfl (by kernel_rfl) Try.call59 (by kernel_rfl) (fun ret11v => by kernel_rfl) (fun e => by cases e) (fun hg => link59 m _ h) (fun hg => noF hg) (fun ret11v h => ?_)
  have h : (((!decide (ret11v.2 = (0 : Int))) = true → K (false, ret11v.2)) ∧ ((!decide (ret11v.2 = (0 : Int))) = false → Loop (σ := Int) (fun s X => VC37_l1 K ret11v s X) (0 : Int))) := h
  refine awl_runp 5 [4, 5] [] (ob := (True ∧ True ∧ True ∧ True ∧ True ∧ True)) (st' := (⟨36, [(4, [], .v (.c (.p (.sl (.ar 6 (.int .i64))) ret11v.1))), (5, [], .v (.c (.p (.int .i64) ret11v.2)))], []⟩ : St)) (by kernel_rfl) ⟨trivial, trivial, trivial, trivial, trivial, trivial⟩ ?_
  refine awl_nil ?_
  refine thenQ_n ?_
  refine aw_seq ?_
  refine aw_seq ?_
  refine aw_region ?_
  refine awl_runp 2 [4, 5, 15] [] (ob := (True ∧ True ∧ True)) (st' := (⟨36, [(4, [], .v (.c (.p (.sl (.ar 6 (.int .i64))) ret11v.1))), (5, [], .v (.c (.p (.int .i64) ret11v.2))), (15, [], .v (.c (.p .bool (!decide (ret11v.2 = (0 : Int))))))], []⟩ : St)) (by kernel_rfl) ⟨trivial, trivial, trivial⟩ ?_
  refine awl_nil ?_
  refine thenQ_n ?_
  refine aw_cond (b := (!decide (ret11v.2 = (0 : Int)))) (by kernel_rfl) (fun hb => ?_) (fun hb => ?_)
  · have h := h.1 hb
    refine aw_seq ?_
    refine aw_region ?_
    refine awl_runp 3 [2, 3] [] (ob := (True ∧ True ∧ True ∧ True)) (st' := (⟨36, [(2, [], .v (.c (.p .bool false))), (3, [], .v (.c (.p (.int .i64) ret11v.2)))], []⟩ : St)) (by kernel_rfl) ⟨trivial, trivial, trivial, trivial⟩ ?_
    refine awl_nil ?_
    refine thenQ_n ?_
    refine aw_ret ?_
    refine thenQ_r ?_
    exact retQ_r (σ := Bool × Int) (R := (fun y => [toV1 .bool y.1, toV1 (.int .i64) y.2])) (ob := (True ∧ True ∧ True)) (false, ret11v.2) (by kernel_rfl) ⟨trivial, trivial, trivial⟩ h
  · have h := h.2 hb
    refine aw_skip ?_
    refine thenQ_n ?_
    refine aw_seq ?_
    refine aw_seq ?_
    refine aw_region ?_
    refine awl_runp 3 [17, 18, 19] [] (ob := (True ∧ True ∧ True ∧ True)) (st' := (⟨36, [(17, [], .v (.c (.p (.sl (.ar 6 (.int .i64))) ret11v.1))), (18, [], .v (.c (.p (.int .i64) (ret11v.1.length : Int)))), (19, [], .v (.c (.p (.int .i64) (0 : Int))))], []⟩ : St)) (by kernel_rfl) ⟨trivial, trivial, trivial, trivial⟩ ?_
    refine awl_nil ?_
    refine thenQ_n ?_
    refine withJoin (σ := Unit) (fun s => (⟨36, [], []⟩ : St)) (fun s => VC37_k1 K) (fun s h => ?_) (fun rest1 => ?_)
    · have h : VC37_k1 K := h
      unfold VC37_k1 at h
      refine thenQ_n ?_
      refine aw_seq ?_
      refine aw_region ?_
      refine awl_runp 2 [2, 3] [] (ob := (True ∧ True ∧ True)) (st' := (⟨36, [(2, [], .v (.c (.p .bool true))), (3, [], .v (.c (.p (.int .i64) (0 : Int))))], []⟩ : St)) (by kernel_rfl) ⟨trivial, trivial, trivial⟩ ?_
      refine awl_nil ?_
      refine thenQ_n ?_
      refine aw_ret ?_
      exact retQ_r (σ := Bool × Int) (R := (fun y => [toV1 .bool y.1, toV1 (.int .i64) y.2])) (ob := (True ∧ True ∧ True)) (true, (0 : Int)) (by kernel_rfl) ⟨trivial, trivial, trivial⟩ h
    · refine aw_block ?_
      refine aw_loop (σ := Int) (fun s => (⟨36, [(17, [], .v (.c (.p (.sl (.ar 6 (.int .i64))) ret11v.1))), (18, [], .v (.c (.p (.int .i64) (ret11v.1.length : Int)))), (19, [], .v (.c (.p (.int .i64) s)))], []⟩ : St)) (fun s X => VC37_l1 K ret11v s X) (s0 := (0 : Int)) (fun v19 X1 h => ?_) h
      have h : VC37_l1 K ret11v v19 X1 := h
      unfold VC37_l1 at h
      refine aw_seq ?_
      refine aw_region ?_
      refine awl_runp 1 [17, 18, 19, 20] [] (ob := (True ∧ True)) (st' := (⟨36, [(17, [], .v (.c (.p (.sl (.ar 6 (.int .i64))) ret11v.1))), (18, [], .v (.c (.p (.int .i64) (ret11v.1.length : Int)))), (19, [], .v (.c (.p (.int .i64) v19))), (20, [], .v (.c (.p .bool (decide (v19 < (ret11v.1.length : Int))))))], []⟩ : St)) (by kernel_rfl) ⟨trivial, trivial⟩ ?_
      refine awl_nil ?_
      refine thenQ_n ?_
      refine aw_seq ?_
      refine aw_cond (b := (decide (v19 < (ret11v.1.length : Int)))) (by kernel_rfl) (fun hb => ?_) (fun hb => ?_)
      · have h := h.1 hb
        refine aw_skip ?_
        refine thenQ_n ?_
        refine aw_seq ?_
        refine aw_block ?_
        refine aw_seq ?_
        refine aw_region ?_
        obtain ⟨o1, h⟩ := h
        refine awl_runp 4 [7, 17, 18, 19] [7] (ob := (inIdx v19 ret11v.1.length ∧ True ∧ True ∧ True ∧ True)) (st' := (⟨36, [(7, [], .v (.c (.ptr 7 0))), (17, [], .v (.c (.p (.sl (.ar 6 (.int .i64))) ret11v.1))), (18, [], .v (.c (.p (.int .i64) (ret11v.1.length : Int)))), (19, [], .v (.c (.p (.int .i64) v19)))], [(7, [], .vec 7 (.int .i64) [((ret11v.1.getD (v19).toNat (List.replicate 7 (0 : Int))).getD 0 (0 : Int)), ((ret11v.1.getD (v19).toNat (List.replicate 7 (0 : Int))).getD 1 (0 : Int)), ((ret11v.1.getD (v19).toNat (List.replicate 7 (0 : Int))).getD 2 (0 : Int)), ((ret11v.1.getD (v19).toNat (List.replicate 7 (0 : Int))).getD 3 (0 : Int)), ((ret11v.1.getD (v19).toNat (List.replicate 7 (0 : Int))).getD 4 (0 : Int)), ((ret11v.1.getD (v19).toNat (List.replicate 7 (0 : Int))).getD 5 (0 : Int)), ((ret11v.1.getD (v19).toNat (List.replicate 7 (0 : Int))).getD 6 (0 : Int))])]⟩ : St)) (by kernel_rfl) ⟨o1, trivial, trivial, trivial, trivial⟩ ?_
        refine awl_nil ?_
        refine thenQ_n ?_
        refine aw_seq ?_
        refine aw_region ?_
        refine awl_runp 3 [7, 8, 17, 18, 19] [7, 8] (ob := (True ∧ True ∧ True ∧ True)) (st' := (⟨36, [(7, [], .v (.c (.ptr 7 0))), (8, [], .v (.c (.ptr 8 0))), (17, [], .v (.c (.p (.sl (.ar 6 (.int .i64))) ret11v.1))), (18, [], .v (.c (.p (.int .i64) (ret11v.1.length : Int)))), (19, [], .v (.c (.p (.int .i64) v19)))], [(7, [], .vec 7 (.int .i64) [((ret11v.1.getD (v19).toNat (List.replicate 7 (0 : Int))).getD 0 (0 : Int)), ((ret11v.1.getD (v19).toNat (List.replicate 7 (0 : Int))).getD 1 (0 : Int)), ((ret11v.1.getD (v19).toNat (List.replicate 7 (0 : Int))).getD 2 (0 : Int)), ((ret11v.1.getD (v19).toNat (List.replicate 7 (0 : Int))).getD 3 (0 : Int)), ((ret11v.1.getD (v19).toNat (List.replicate 7 (0 : Int))).getD 4 (0 : Int)), ((ret11v.1.getD (v19).toNat (List.replicate 7 (0 : Int))).getD 5 (0 : Int)), ((ret11v.1.getD (v19).toNat (List.replicate 7 (0 : Int))).getD 6 (0 : Int))]), (8, [], .vec 7 (.int .i64) [([((ret11v.1.getD (v19).toNat (List.replicate 7 (0 : Int))).getD 0 (0 : Int)), ((ret11v.1.getD (v19).toNat (List.replicate 7 (0 : Int))).getD 1 (0 : Int)), ((ret11v.1.getD (v19).toNat (List.replicate 7 (0 : Int))).getD 2 (0 : Int)), ((ret11v.1.getD (v19).toNat (List.replicate 7 (0 : Int))).getD 3 (0 : Int)), ((ret11v.1.getD (v19).toNat (List.replicate 7 (0 : Int))).getD 4 (0 : Int)), ((ret11v.1.getD (v19).toNat (List.replicate 7 (0 : Int))).getD 5 (0 : Int)), ((ret11v.1.getD (v19).toNat (List.replicate 7 (0 : Int))).getD 6 (0 : Int))].getD 0 (0 : Int)), ([((ret11v.1.getD (v19).toNat (List.replicate 7 (0 : Int))).getD 0 (0 : Int)), ((ret11v.1.getD (v19).toNat (List.replicate 7 (0 : Int))).getD 1 (0 : Int)), ((ret11v.1.getD (v19).toNat (List.replicate 7 (0 : Int))).getD 2 (0 : Int)), ((ret11v.1.getD (v19).toNat (List.replicate 7 (0 : Int))).getD 3 (0 : Int)), ((ret11v.1.getD (v19).toNat (List.replicate 7 (0 : Int))).getD 4 (0 : Int)), ((ret11v.1.getD (v19).toNat (List.replicate 7 (0 : Int))).getD 5 (0 : Int)), ((ret11v.1.getD (v19).toNat (List.replicate 7 (0 : Int))).getD 6 (0 : Int))].getD 1 (0 : Int)), ([((ret11v.1.getD (v19).toNat (List.replicate 7 (0 : Int))).getD 0 (0 : Int)), ((ret11v.1.getD (v19).toNat (List.replicate 7 (0 : Int))).getD 1 (0 : Int)), ((ret11v.1.getD (v19).toNat (List.replicate 7 (0 : Int))).getD 2 (0 : Int)), ((ret11v.1.getD (v19).toNat (List.replicate 7 (0 : Int))).getD 3 (0 : Int)), ((ret11v.1.getD (v19).toNat (List.replicate 7 (0 : Int))).getD 4 (0 : Int)), ((ret11v.1.getD (v19).toNat (List.replicate 7 (0 : Int))).getD 5 (0 : Int)), ((ret11v.1.getD (v19).toNat (List.replicate 7 (0 : Int))).getD 6 (0 : Int))].getD 2 (0 : Int)), ([((ret11v.1.getD (v19).toNat (List.replicate 7 (0 : Int))).getD 0 (0 : Int)), ((ret11v.1.getD (v19).toNat (List.replicate 7 (0 : Int))).getD 1 (0 : Int)), ((ret11v.1.getD (v19).toNat (List.replicate 7 (0 : Int))).getD 2 (0 : Int)), ((ret11v.1.getD (v19).toNat (List.replicate 7 (0 : Int))).getD 3 (0 : Int)), ((ret11v.1.getD (v19).toNat (List.replicate 7 (0 : Int))).getD 4 (0 : Int)), ((ret11v.1.getD (v19).toNat (List.replicate 7 (0 : Int))).getD 5 (0 : Int)), ((ret11v.1.getD (v19).toNat (List.replicate 7 (0 : Int))).getD 6 (0 : Int))].getD 3 (0 : Int)), ([((ret11v.1.getD (v19).toNat (List.replicate 7 (0 : Int))).getD 0 (0 : Int)), ((ret11v.1.getD (v19).toNat (List.replicate 7 (0 : Int))).getD 1 (0 : Int)), ((ret11v.1.getD (v19).toNat (List.replicate 7 (0 : Int))).getD 2 (0 : Int)), ((ret11v.1.getD (v19).toNat (List.replicate 7 (0 : Int))).getD 3 (0 : Int)), ((ret11v.1.getD (v19).toNat (List.replicate 7 (0 : Int))).getD 4 (0 : Int)), ((ret11v.1.getD (v19).toNat (List.replicate 7 (0 : Int))).getD 5 (0 : Int)), ((ret11v.1.getD (v19).toNat (List.replicate 7 (0 : Int))).getD 6 (0 : Int))].getD 4 (0 : Int)), ([((ret11v.1.getD (v19).toNat (List.replicate 7 (0 : Int))).getD 0 (0 : Int)), ((ret11v.1.getD (v19).toNat (List.replicate 7 (0 : Int))).getD 1 (0 : Int)), ((ret11v.1.getD (v19).toNat (List.replicate 7 (0 : Int))).getD 2 (0 : Int)), ((ret11v.1.getD (v19).toNat (List.replicate 7 (0 : Int))).getD 3 (0 : Int)), ((ret11v.1.getD (v19).toNat (List.replicate 7 (0 : Int))).getD 4 (0 : Int)), ((ret11v.1.getD (v19).toNat (List.replicate 7 (0 : Int))).getD 5 (0 : Int)), ((ret11v.1.getD (v19).toNat (List.replicate 7 (0 : Int))).getD 6 (0 : Int))].getD 5 (0 : Int)), ([((ret11v.1.getD (v19).toNat (List.replicate 7 (0 : Int))).getD 0 (0 : Int)), ((ret11v.1.getD (v19).toNat (List.replicate 7 (0 : Int))).getD 1 (0 : Int)), ((ret11v.1.getD (v19).toNat (List.replicate 7 (0 : Int))).getD 2 (0 : Int)), ((ret11v.1.getD (v19).toNat (List.replicate 7 (0 : Int))).getD 3 (0 : Int)), ((ret11v.1.getD (v19).toNat (List.replicate 7 (0 : Int))).getD 4 (0 : Int)), ((ret11v.1.getD (v19).toNat (List.replicate 7 (0 : Int))).getD 5 (0 : Int)), ((ret11v.1.getD (v19).toNat (List.replicate 7 (0 : Int))).getD 6 (0 : Int))].getD 6 (0 : Int))])]⟩ : St)) (by kernel_rfl) ⟨trivial, trivial, trivial, trivial⟩ ?_
        refine awl_nil ?_
        refine thenQ_n ?_
        refine aw_seq ?_
        refine aw_seq ?_
        refine aw_region ?_
        refine awl_runp 1 [7, 8, 17, 18, 19, 24] [7, 8] (ob := (True ∧ True)) (st' := (⟨36, [(7, [], .v (.c (.ptr 7 0))), (8, [], .v (.c (.ptr 8 0))), (17, [], .v (.c (.p (.sl (.ar 6 (.int .i64))) ret11v.1))), (18, [], .v (.c (.p (.int .i64) (ret11v.1.length : Int)))), (19, [], .v (.c (.p (.int .i64) v19))), (24, [], .v (.c (.p (.int .i64) (0 : Int))))], [(7, [], .vec 7 (.int .i64) [((ret11v.1.getD (v19).toNat (List.replicate 7 (0 : Int))).getD 0 (0 : Int)), ((ret11v.1.getD (v19).toNat (List.replicate 7 (0 : Int))).getD 1 (0 : Int)), ((ret11v.1.getD (v19).toNat (List.replicate 7 (0 : Int))).getD 2 (0 : Int)), ((ret11v.1.getD (v19).toNat (List.replicate 7 (0 : Int))).getD 3 (0 : Int)), ((ret11v.1.getD (v19).toNat (List.replicate 7 (0 : Int))).getD 4 (0 : Int)), ((ret11v.1.getD (v19).toNat (List.replicate 7 (0 : Int))).getD 5 (0 : Int)), ((ret11v.1.getD (v19).toNat (List.replicate 7 (0 : Int))).getD 6 (0 : Int))]), (8, [], .vec 7 (.int .i64) [([((ret11v.1.getD (v19).toNat (List.replicate 7 (0 : Int))).getD 0 (0 : Int)), ((ret11v.1.getD (v19).toNat (List.replicate 7 (0 : Int))).getD 1 (0 : Int)), ((ret11v.1.getD (v19).toNat (List.replicate 7 (0 : Int))).getD 2 (0 : Int)), ((ret11v.1.getD (v19).toNat (List.replicate 7 (0 : Int))).getD 3 (0 : Int)), ((ret11v.1.getD (v19).toNat (List.replicate 7 (0 : Int))).getD 4 (0 : Int)), ((ret11v.1.getD (v19).toNat (List.replicate 7 (0 : Int))).getD 5 (0 : Int)), ((ret11v.1.getD (v19).toNat (List.replicate 7 (0 : Int))).getD 6 (0 : Int))].getD 0 (0 : Int)), ([((ret11v.1.getD (v19).toNat (List.replicate 7 (0 : Int))).getD 0 (0 : Int)), ((ret11v.1.getD (v19).toNat (List.replicate 7 (0 : Int))).getD 1 (0 : Int)), ((ret11v.1.getD (v19).toNat (List.replicate 7 (0 : Int))).getD 2 (0 : Int)), ((ret11v.1.getD (v19).toNat (List.replicate 7 (0 : Int))).getD 3 (0 : Int)), ((ret11v.1.getD (v19).toNat (List.replicate 7 (0 : Int))).getD 4 (0 : Int)), ((ret11v.1.getD (v19).toNat (List.replicate 7 (0 : Int))).getD 5 (0 : Int)), ((ret11v.1.getD (v19).toNat (List.replicate 7 (0 : Int))).getD 6 (0 : Int))].getD 1 (0 : Int)), ([((ret11v.1.getD (v19).toNat (List.replicate 7 (0 : Int))).getD 0 (0 : Int)), ((ret11v.1.getD (v19).toNat (List.replicate 7 (0 : Int))).getD 1 (0 : Int)), ((ret11v.1.getD (v19).toNat (List.replicate 7 (0 : Int))).getD 2 (0 : Int)), ((ret11v.1.getD (v19).toNat (List.replicate 7 (0 : Int))).getD 3 (0 : Int)), ((ret11v.1.getD (v19).toNat (List.replicate 7 (0 : Int))).getD 4 (0 : Int)), ((ret11v.1.getD (v19).toNat (List.replicate 7 (0 : Int))).getD 5 (0 : Int)), ((ret11v.1.getD (v19).toNat (List.replicate 7 (0 : Int))).getD 6 (0 : Int))].getD 2 (0 : Int)), ([((ret11v.1.getD (v19).toNat (List.replicate 7 (0 : Int))).getD 0 (0 : Int)), ((ret11v.1.getD (v19).toNat (List.replicate 7 (0 : Int))).getD 1 (0 : Int)), ((ret11v.1.getD (v19).toNat (List.replicate 7 (0 : Int))).getD 2 (0 : Int)), ((ret11v.1.getD (v19).toNat (List.replicate 7 (0 : Int))).getD 3 (0 : Int)), ((ret11v.1.getD (v19).toNat (List.replicate 7 (0 : Int))).getD 4 (0 : Int)), ((ret11v.1.getD (v19).toNat (List.replicate 7 (0 : Int))).getD 5 (0 : Int)), ((ret11v.1.getD (v19).toNat (List.replicate 7 (0 : Int))).getD 6 (0 : Int))].getD 3 (0 : Int)), ([((ret11v.1.getD (v19).toNat (List.replicate 7 (0 : Int))).getD 0 (0 : Int)), ((ret11v.1.getD (v19).toNat (List.replicate 7 (0 : Int))).getD 1 (0 : Int)), ((ret11v.1.getD (v19).toNat (List.replicate 7 (0 : Int))).getD 2 (0 : Int)), ((ret11v.1.getD (v19).toNat (List.replicate 7 (0 : Int))).getD 3 (0 : Int)), ((ret11v.1.getD (v19).toNat (List.replicate 7 (0 : Int))).getD 4 (0 : Int)), ((ret11v.1.getD (v19).toNat (List.replicate 7 (0 : Int))).getD 5 (0 : Int)), ((ret11v.1.getD (v19).toNat (List.replicate 7 (0 : Int))).getD 6 (0 : Int))].getD 4 (0 : Int)), ([((ret11v.1.getD (v19).toNat (List.replicate 7 (0 : Int))).getD 0 (0 : Int)), ((ret11v.1.getD (v19).toNat (List.replicate 7 (0 : Int))).getD 1 (0 : Int)), ((ret11v.1.getD (v19).toNat (List.replicate 7 (0 : Int))).getD 2 (0 : Int)), ((ret11v.1.getD (v19).toNat (List.replicate 7 (0 : Int))).getD 3 (0 : Int)), ((ret11v.1.getD (v19).toNat (List.replicate 7 (0 : Int))).getD 4 (0 : Int)), ((ret11v.1.getD (v19).toNat (List.replicate 7 (0 : Int))).getD 5 (0 : Int)), ((ret11v.1.getD (v19).toNat (List.replicate 7 (0 : Int))).getD 6 (0 : Int))].getD 5 (0 : Int)), ([((ret11v.1.getD (v19).toNat (List.replicate 7 (0 : Int))).getD 0 (0 : Int)), ((ret11v.1.getD (v19).toNat (List.replicate 7 (0 : Int))).getD 1 (0 : Int)), ((ret11v.1.getD (v19).toNat (List.replicate 7 (0 : Int))).getD 2 (0 : Int)), ((ret11v.1.getD (v19).toNat (List.replicate 7 (0 : Int))).getD 3 (0 : Int)), ((ret11v.1.getD (v19).toNat (List.replicate 7 (0 : Int))).getD 4 (0 : Int)), ((ret11v.1.getD (v19).toNat (List.replicate 7 (0 : Int))).getD 5 (0 : Int)), ((ret11v.1.getD (v19).toNat (List.replicate 7 (0 : Int))).getD 6 (0 : Int))].getD 6 (0 : Int))])]⟩ : St)) (by kernel_rfl) ⟨trivial, trivial⟩ ?_
        refine awl_nil ?_
        refine thenQ_n ?_
        refine withJoin (σ := (List Int)) (fun s => (⟨36, [(7, [], .v (.c (.ptr 7 0))), (8, [], .v (.c (.ptr 8 0))), (17, [], .v (.c (.p (.sl (.ar 6 (.int .i64))) ret11v.1))), (18, [], .v (.c (.p (.int .i64) (ret11v.1.length : Int)))), (19, [], .v (.c (.p (.int .i64) v19)))], [(7, [], .vec 7 (.int .i64) [((ret11v.1.getD (v19).toNat (List.replicate 7 (0 : Int))).getD 0 (0 : Int)), ((ret11v.1.getD (v19).toNat (List.replicate 7 (0 : Int))).getD 1 (0 : Int)), ((ret11v.1.getD (v19).toNat (List.replicate 7 (0 : Int))).getD 2 (0 : Int)), ((ret11v.1.getD (v19).toNat (List.replicate 7 (0 : Int))).getD 3 (0 : Int)), ((ret11v.1.getD (v19).toNat (List.replicate 7 (0 : Int))).getD 4 (0 : Int)), ((ret11v.1.getD (v19).toNat (List.replicate 7 (0 : Int))).getD 5 (0 : Int)), ((ret11v.1.getD (v19).toNat (List.replicate 7 (0 : Int))).getD 6 (0 : Int))]), (8, [], .vec 7 (.int .i64) s)]⟩ : St)) (fun s => VC37_k2 K ret11v v19 X1 s) (fun power h => ?_) (fun rest2 => ?_)
        · have h : VC37_k2 K ret11v v19 X1 power := h
          unfold VC37_k2 at h
          refine thenQ_n ?_
          refine aw_seq ?_
          refine awd_begin [] (by kernel_rfl) ?_
          refine awd_runp (by kernel_rfl) [0, 1, 3] [17, 18, 19, 30, 31, 33] [] (ob := (True ∧ True ∧ True ∧ True)) (done' := [3, 1, 0]) (st' := (⟨36, [(17, [], .v (.c (.p (.sl (.ar 6 (.int .i64))) ret11v.1))), (18, [], .v (.c (.p (.int .i64) (ret11v.1.length : Int)))), (19, [], .v (.c (.p (.int .i64) v19))), (30, [], .v (.agg [.p (.int .i64) (power.getD 0 (0 : Int)), .p (.int .i64) (power.getD 1 (0 : Int)), .p (.int .i64) (power.getD 2 (0 : Int)), .p (.int .i64) (power.getD 3 (0 : Int)), .p (.int .i64) (power.getD 4 (0 : Int)), .p (.int .i64) (power.getD 5 (0 : Int)), .p (.int .i64) (power.getD 6 (0 : Int))])), (31, [], .v (.agg [.p (.int .i64) ([((ret11v.1.getD (v19).toNat (List.replicate 7 (0 : Int))).getD 0 (0 : Int)), ((ret11v.1.getD (v19).toNat (List.replicate 7 (0 : Int))).getD 1 (0 : Int)), ((ret11v.1.getD (v19).toNat (List.replicate 7 (0 : Int))).getD 2 (0 : Int)), ((ret11v.1.getD (v19).toNat (List.replicate 7 (0 : Int))).getD 3 (0 : Int)), ((ret11v.1.getD (v19).toNat (List.replicate 7 (0 : Int))).getD 4 (0 : Int)), ((ret11v.1.getD (v19).toNat (List.replicate 7 (0 : Int))).getD 5 (0 : Int)), ((ret11v.1.getD (v19).toNat (List.replicate 7 (0 : Int))).getD 6 (0 : Int))].getD 0 (0 : Int)), .p (.int .i64) ([((ret11v.1.getD (v19).toNat (List.replicate 7 (0 : Int))).getD 0 (0 : Int)), ((ret11v.1.getD (v19).toNat (List.replicate 7 (0 : Int))).getD 1 (0 : Int)), ((ret11v.1.getD (v19).toNat (List.replicate 7 (0 : Int))).getD 2 (0 : Int)), ((ret11v.1.getD (v19).toNat (List.replicate 7 (0 : Int))).getD 3 (0 : Int)), ((ret11v.1.getD (v19).toNat (List.replicate 7 (0 : Int))).getD 4 (0 : Int)), ((ret11v.1.getD (v19).toNat (List.replicate 7 (0 : Int))).getD 5 (0 : Int)), ((ret11v.1.getD (v19).toNat (List.replicate 7 (0 : Int))).getD 6 (0 : Int))].getD 1 (0 : Int)), .p (.int .i64) ([((ret11v.1.getD (v19).toNat (List.replicate 7 (0 : Int))).getD 0 (0 : Int)), ((ret11v.1.getD (v19).toNat (List.replicate 7 (0 : Int))).getD 1 (0 : Int)), ((ret11v.1.getD (v19).toNat (List.replicate 7 (0 : Int))).getD 2 (0 : Int)), ((ret11v.1.getD (v19).toNat (List.replicate 7 (0 : Int))).getD 3 (0 : Int)), ((ret11v.1.getD (v19).toNat (List.replicate 7 (0 : Int))).getD 4 (0 : Int)), ((ret11v.1.getD (v19).toNat (List.replicate 7 (0 : Int))).getD 5 (0 : Int)), ((ret11v.1.getD (v19).toNat (List.replicate 7 (0 : Int))).getD 6 (0 : Int))].getD 2 (0 : Int)), .p (.int .i64) ([((ret11v.1.getD (v19).toNat (List.replicate 7 (0 : Int))).getD 0 (0 : Int)), ((ret11v.1.getD (v19).toNat (List.replicate 7 (0 : Int))).getD 1 (0 : Int)), ((ret11v.1.getD (v19).toNat (List.replicate 7 (0 : Int))).getD 2 (0 : Int)), ((ret11v.1.getD (v19).toNat (List.replicate 7 (0 : Int))).getD 3 (0 : Int)), ((ret11v.1.getD (v19).toNat (List.replicate 7 (0 : Int))).getD 4 (0 : Int)), ((ret11v.1.getD (v19).toNat (List.replicate 7 (0 : Int))).getD 5 (0 : Int)), ((ret11v.1.getD (v19).toNat (List.replicate 7 (0 : Int))).getD 6 (0 : Int))].getD 3 (0 : Int)), .p (.int .i64) ([((ret11v.1.getD (v19).toNat (List.replicate 7 (0 : Int))).getD 0 (0 : Int)), ((ret11v.1.getD (v19).toNat (List.replicate 7 (0 : Int))).getD 1 (0 : Int)), ((ret11v.1.getD (v19).toNat (List.replicate 7 (0 : Int))).getD 2 (0 : Int)), ((ret11v.1.getD (v19).toNat (List.replicate 7 (0 : Int))).getD 3 (0 : Int)), ((ret11v.1.getD (v19).toNat (List.replicate 7 (0 : Int))).getD 4 (0 : Int)), ((ret11v.1.getD (v19).toNat (List.replicate 7 (0 : Int))).getD 5 (0 : Int)), ((ret11v.1.getD (v19).toNat (List.replicate 7 (0 : Int))).getD 6 (0 : Int))].getD 4 (0 : Int)), .p (.int .i64) ([((ret11v.1.getD (v19).toNat (List.replicate 7 (0 : Int))).getD 0 (0 : Int)), ((ret11v.1.getD (v19).toNat (List.replicate 7 (0 : Int))).getD 1 (0 : Int)), ((ret11v.1.getD (v19).toNat (List.replicate 7 (0 : Int))).getD 2 (0 : Int)), ((ret11v.1.getD (v19).toNat (List.replicate 7 (0 : Int))).getD 3 (0 : Int)), ((ret11v.1.getD (v19).toNat (List.replicate 7 (0 : Int))).getD 4 (0 : Int)), ((ret11v.1.getD (v19).toNat (List.replicate 7 (0 : Int))).getD 5 (0 : Int)), ((ret11v.1.getD (v19).toNat (List.replicate 7 (0 : Int))).getD 6 (0 : Int))].getD 5 (0 : Int)), .p (.int .i64) ([((ret11v.1.getD (v19).toNat (List.replicate 7 (0 : Int))).getD 0 (0 : Int)), ((ret11v.1.getD (v19).toNat (List.replicate 7 (0 : Int))).getD 1 (0 : Int)), ((ret11v.1.getD (v19).toNat (List.replicate 7 (0 : Int))).getD 2 (0 : Int)), ((ret11v.1.getD (v19).toNat (List.replicate 7 (0 : Int))).getD 3 (0 : Int)), ((ret11v.1.getD (v19).toNat (List.replicate 7 (0 : Int))).getD 4 (0 : Int)), ((ret11v.1.getD (v19).toNat (List.replicate 7 (0 : Int))).getD 5 (0 : Int)), ((ret11v.1.getD (v19).toNat (List.replicate 7 (0 : Int))).getD 6 (0 : Int))].getD 6 (0 : Int))])), (33, [], .v (.agg [.p (.int .i64) (power.getD 0 (0 : Int)), .p (.int .i64) (power.getD 1 (0 : Int)), .p (.int .i64) (power.getD 2 (0 : Int)), .p (.int .i64) (power.getD 3 (0 : Int)), .p (.int .i64) (power.getD 4 (0 : Int)), .p (.int .i64) (power.getD 5 (0 : Int)), .p (.int .i64) (power.getD 6 (0 : Int))]))], []⟩ : St)) (by kernel_rfl) ⟨trivial, trivial, trivial, trivial⟩ ?_
          refine awd_one (i := 2) (by kernel_rfl) ?_
          refine adop_callk (p := []) (l := [toV1 (.ar 6 (.int .i64)) [(power.getD 0 (0 : Int)), (power.getD 1 (0 : Int)), (power.getD 2 (0 : Int)), (power.getD 3 (0 : Int)), (power.getD 4 (0 : Int)), (power.getD 5 (0 : Int)), (power.getD 6 (0 : Int))], toV1 (.ar 6 (.int .i64)) [([((ret11v.1.getD (v19).toNat (List.replicate 7 (0 : Int))).getD 0 (0 : Int)), ((ret11v.1.getD (v19).toNat (List.replicate 7 (0 : Int))).getD 1 (0 : Int)), ((ret11v.1.getD (v19).toNat (List.replicate 7 (0 : Int))).getD 2 (0 : Int)), ((ret11v.1.getD (v19).toNat (List.replicate 7 (0 : Int))).getD 3 (0 : Int)), ((ret11v.1.getD (v19).toNat (List.replicate 7 (0 : Int))).getD 4 (0 : Int)), ((ret11v.1.getD (v19).toNat (List.replicate 7 (0 : Int))).getD 5 (0 : Int)), ((ret11v.1.getD (v19).toNat (List.replicate 7 (0 : Int))).getD 6 (0 : Int))].getD 0 (0 : Int)), ([((ret11v.1.getD (v19).toNat (List.replicate 7 (0 : Int))).getD 0 (0 : Int)), ((ret11v.1.getD (v19).toNat (List.replicate 7 (0 : Int))).getD 1 (0 : Int)), ((ret11v.1.getD (v19).toNat (List.replicate 7 (0 : Int))).getD 2 (0 : Int)), ((ret11v.1.getD (v19).toNat (List.replicate 7 (0 : Int))).getD 3 (0 : Int)), ((ret11v.1.getD (v19).toNat (List.replicate 7 (0 : Int))).getD 4 (0 : Int)), ((ret11v.1.getD (v19).toNat (List.replicate 7 (0 : Int))).getD 5 (0 : Int)), ((ret11v.1.getD (v19).toNat (List.replicate 7 (0 : Int))).getD 6 (0 : Int))].getD 1 (0 : Int)), ([((ret11v.1.getD (v19).toNat (List.replicate 7 (0 : Int))).getD 0 (0 : Int)), ((ret11v.1.getD (v19).toNat (List.replicate 7 (0 : Int))).getD 1 (0 : Int)), ((ret11v.1.getD (v19).toNat (List.replicate 7 (0 : Int))).getD 2 (0 : Int)), ((ret11v.1.getD (v19).toNat (List.replicate 7 (0 : Int))).getD 3 (0 : Int)), ((ret11v.1.getD (v19).toNat (List.replicate 7 (0 : Int))).getD 4 (0 : Int)), ((ret11v.1.getD (v19).toNat (List.replicate 7 (0 : Int))).getD 5 (0 : Int)), ((ret11v.1.getD (v19).toNat (List.replicate 7 (0 : Int))).getD 6 (0 : Int))].getD 2 (0 : Int)), ([((ret11v.1.getD (v19).toNat (List.replicate 7 (0 : Int))).getD 0 (0 : Int)), ((ret11v.1.getD (v19).toNat (List.replicate 7 (0 : Int))).getD 1 (0 : Int)), ((ret11v.1.getD (v19).toNat (List.replicate 7 (0 : Int))).getD 2 (0 : Int)), ((ret11v.1.getD (v19).toNat (List.replicate 7 (0 : Int))).getD 3 (0 : Int)), ((ret11v.1.getD (v19).toNat (List.replicate 7 (0 : Int))).getD 4 (0 : Int)), ((ret11v.1.getD (v19).toNat (List.replicate 7 (0 : Int))).getD 5 (0 : Int)), ((ret11v.1.getD (v19).toNat (List.replicate 7 (0 : Int))).getD 6 (0 : Int))].getD 3 (0 : Int)), ([((ret11v.1.getD (v19).toNat (List.replicate 7 (0 : Int))).getD 0 (0 : Int)), ((ret11v.1.getD (v19).toNat (List.replicate 7 (0 : Int))).getD 1 (0 : Int)), ((ret11v.1.getD (v19).toNat (List.replicate 7 (0 : Int))).getD 2 (0 : Int)), ((ret11v.1.getD (v19).toNat (List.replicate 7 (0 : Int))).getD 3 (0 : Int)), ((ret11v.1.getD (v19).toNat (List.replicate 7 (0 : Int))).getD 4 (0 : Int)), ((ret11v.1.getD (v19).toNat (List.replicate 7 (0 : Int))).getD 5 (0 : Int)), ((ret11v.1.getD (v19).toNat (List.replicate 7 (0 : Int))).getD 6 (0 : Int))].getD 4 (0 : Int)), ([((ret11v.1.getD (v19).toNat (List.replicate 7 (0 : Int))).getD 0 (0 : Int)), ((ret11v.1.getD (v19).toNat (List.replicate 7 (0 : Int))).getD 1 (0 : Int)), ((ret11v.1.getD (v19).toNat (List.replicate 7 (0 : Int))).getD 2 (0 : Int)), ((ret11v.1.getD (v19).toNat (List.replicate 7 (0 : Int))).getD 3 (0 : Int)), ((ret11v.1.getD (v19).toNat (List.replicate 7 (0 : Int))).getD 4 (0 : Int)), ((ret11v.1.getD (v19).toNat (List.replicate 7 (0 : Int))).getD 5 (0 : Int)), ((ret11v.1.getD (v19).toNat (List.replicate 7 (0 : Int))).getD 6 (0 : Int))].getD 5 (0 : Int)), ([((ret11v.1.getD (v19).toNat (List.replicate 7 (0 : Int))).getD 0 (0 : Int)), ((ret11v.1.getD (v19).toNat (List.replicate 7 (0 : Int))).getD 1 (0 : Int)), ((ret11v.1.getD (v19).toNat (List.replicate 7 (0 : Int))).getD 2 (0 : Int)), ((ret11v.1.getD (v19).toNat (List.replicate 7 (0 : Int))).getD 3 (0 : Int)), ((ret11v.1.getD (v19).toNat (List.replicate 7 (0 : Int))).getD 4 (0 : Int)), ((ret11v.1.getD (v19).toNat (List.replicate 7 (0 : Int))).getD 5 (0 : Int)), ((ret11v.1.getD (v19).toNat (List.replicate 7 (0 : Int))).getD 6 (0 : Int))].getD 6 (0 : Int))]]) (cl := []) false [.d (.ar 6 (.int .i64)), .d (.ar 6 (.int .i64))] [17, 18, 19, 32, 33] [] (fun (ret32v : (List Int)) => (((!(decide ([(ret32v.getD 0 (0 : Int)), (ret32v.getD 1 (0 : Int)), (ret32v.getD 2 (0 : Int)), (ret32v.getD 3 (0 : Int)), (ret32v.getD 4 (0 : Int)), (ret32v.getD 5 (0 : Int)), (ret32v.getD 6 (0 : Int))] = [(power.getD 0 (0 : Int)), (power.getD 1 (0 : Int)), (power.getD 2 (0 : Int)), (power.getD 3 (0 : Int)), (power.getD 4 (0 : Int)), (power.getD 5 (0 : Int)), (power.getD 6 (0 : Int))]))) = true → K (false, (0 : Int))) ∧ ((!(decide ([(ret32v.getD 0 (0 : Int)), (ret32v.getD 1 (0 : Int)), (ret32v.getD 2 (0 : Int)), (ret32v.getD 3 (0 : Int)), (ret32v.getD 4 (0 : Int)), (ret32v.getD 5 (0 : Int)), (ret32v.getD 6 (0 : Int))] = [(power.getD 0 (0 : Int)), (power.getD 1 (0 : Int)), (power.getD 2 (0 : Int)), (power.getD 3 (0 : Int)), (power.getD 4 (0 : Int)), (power.getD 5 (0 : Int)), (power.getD 6 (0 : Int))]))) = false → (InR (v19 + (1 : Int)) ∧ X1 (v19 + (1 : Int)))))) (fun ret32v => [toV1 (.ar 6 (.int .i64)) ret32v]) (fun ret32v => (⟨36, [(17, [], .v (.c (.p (.sl (.ar 6 (.int .i64))) ret11v.1))), (18, [], .v (.c (.p (.int .i64) (ret11v.1.length : Int)))), (19, [], .v (.c (.p (.int .i64) v19))), (32, [], .v (.agg [.p (.int .i64) (ret32v.getD 0 (0 : Int)), .p (.int .i64) (ret32v.getD 1 (0 : Int)), .p (.int .i64) (ret32v.getD 2 (0 : Int)), .p (.int .i64) (ret32v.getD 3 (0 : Int)), .p (.int .i64) (ret32v.getD 4 (0 : Int)), .p (.int .i64) (ret32v.getD 5 (0 : Int)), .p (.int .i64) (ret32v.getD 6 (0 : Int))])), (33, [], .v (.agg [.p (.int .i64) (power.getD 0 (0 : Int)), .p (.int .i64) (power.getD 1 (0 : Int)), .p (.int .i64) (power.getD 2 (0 : Int)), .p (.int .i64) (power.getD 3 (0 : Int)), .p (.int .i64) (power.getD 4 (0 : Int)), .p (.int .i64) (power.getD 5 (0 : Int)), .p (.int .i64) (power.getD 6 (0 : Int))]))], []⟩ : St)) rfl (by kernel_rfl) rfl (by kernel_rfl) rfl (by kernel_rfl) Try.call60 (by kernel_rfl) (fun ret32v => by kernel_rfl) (fun e => by cases e) (fun hg => link60 [(power.getD 0 (0 : Int)), (power.getD 1 (0 : Int)), (power.getD 2 (0 : Int)), (power.getD 3 (0 : Int)), (power.getD 4 (0 : Int)), (power.getD 5 (0 : Int)), (power.getD 6 (0 : Int))] [([((ret11v.1.getD (v19).toNat (List.replicate 7 (0 : Int))).getD 0 (0 : Int)), ((ret11v.1.getD (v19).toNat (List.replicate 7 (0 : Int))).getD 1 (0 : Int)), ((ret11v.1.getD (v19).toNat (List.replicate 7 (0 : Int))).getD 2 (0 : Int)), ((ret11v.1.getD (v19).toNat (List.replicate 7 (0 : Int))).getD 3 (0 : Int)), ((ret11v.1.getD (v19).toNat (List.replicate 7 (0 : Int))).getD 4 (0 : Int)), ((ret11v.1.getD (v19).toNat (List.replicate 7 (0 : Int))).getD 5 (0 : Int)), ((ret11v.1.getD (v19).toNat (List.replicate 7 (0 : Int))).getD 6 (0 : Int))].getD 0 (0 : Int)), ([((ret11v.1.getD (v19).toNat (List.replicate 7 (0 : Int))).getD 0 (0 : Int)), ((ret11v.1.getD (v19).toNat (List.replicate 7 (0 : Int))).getD 1 (0 : Int)), ((ret11v.1.getD (v19).toNat (List.replicate 7 (0 : Int))).getD 2 (0 : Int)), ((ret11v.1.getD (v19).toNat (List.replicate 7 (0 : Int))).getD 3 (0 : Int)), ((ret11v.1.getD (v19).toNat (List.replicate 7 (0 : Int))).getD 4 (0 : Int)), ((ret11v.1.getD (v19).toNat (List.replicate 7 (0 : Int))).getD 5 (0 : Int)), ((ret11v.1.getD (v19).toNat (List.replicate 7 (0 : Int))).getD 6 (0 : Int))].getD 1 (0 : Int)), ([((ret11v.1.getD (v19).toNat (List.replicate 7 (0 : Int))).getD 0 (0 : Int)), ((ret11v.1.getD (v19).toNat (List.replicate 7 (0 : Int))).getD 1 (0 : Int)), ((ret11v.1.getD (v19).toNat (List.replicate 7 (0 : Int))).getD 2 (0 : Int)), ((ret11v.1.getD (v19).toNat (List.replicate 7 (0 : Int))).getD 3 (0 : Int)), ((ret11v.1.getD (v19).toNat (List.replicate 7 (0 : Int))).getD 4 (0 : Int)), ((ret11v.1.getD (v19).toNat (List.replicate 7 (0 : Int))).getD 5 (0 : Int)), ((ret11v.1.getD (v19).toNat (List.replicate 7 (0 : Int))).getD 6 (0 : Int))].getD 2 (0 : Int)), ([((ret11v.1.getD (v19).toNat (List.replicate 7 (0 : Int))).getD 0 (0 : Int)), ((ret11v.1.getD (v19).toNat (List.replicate 7 (0 : Int))).getD 1 (0 : Int)), ((ret11v.1.getD (v19).toNat (List.replicate 7 (0 : Int))).getD 2 (0 : Int)), ((ret11v.1.getD (v19).toNat (List.replicate 7 (0 : Int))).getD 3 (0 : Int)), ((ret11v.1.getD (v19).toNat (List.replicate 7 (0 : Int))).getD 4 (0 : Int)), ((ret11v.1.getD (v19).toNat (List.replicate 7 (0 : Int))).getD 5 (0 : Int)), ((ret11v.1.getD (v19).toNat (List.replicate 7 (0 : Int))).getD 6 (0 : Int))].getD 3 (0 : Int)), ([((ret11v.1.getD (v19).toNat (List.replicate 7 (0 : Int))).getD 0 (0 : Int)), ((ret11v.1.getD (v19).toNat (List.replicate 7 (0 : Int))).getD 1 (0 : Int)), ((ret11v.1.getD (v19).toNat (List.replicate 7 (0 : Int))).getD 2 (0 : Int)), ((ret11v.1.getD (v19).toNat (List.replicate 7 (0 : Int))).getD 3 (0 : Int)), ((ret11v.1.getD (v19).toNat (List.replicate 7 (0 : Int))).getD 4 (0 : Int)), ((ret11v.1.getD (v19).toNat (List.replicate 7 (0 : Int))).getD 5 (0 : Int)), ((ret11v.1.getD (v19).toNat (List.replicate 7 (0 : Int))).getD 6 (0 : Int))].getD 4 (0 : Int)), ([((ret11v.1.getD (v19).toNat (List.replicate 7 (0 : Int))).getD 0 (0 : Int)), ((ret11v.1.getD (v19).toNat (List.replicate 7 (0 : Int))).getD 1 (0 : Int)), ((ret11v.1.getD (v19).toNat (List.replicate 7 (0 : Int))).getD 2 (0 : Int)), ((ret11v.1.getD (v19).toNat (List.replicate 7 (0 : Int))).getD 3 (0 : Int)), ((ret11v.1.getD (v19).toNat (List.replicate 7 (0 : Int))).getD 4 (0 : Int)), ((ret11v.1.getD (v19).toNat (List.replicate 7 (0 : Int))).getD 5 (0 : Int)), ((ret11v.1.getD (v19).toNat (List.replicate 7 (0 : Int))).getD 6 (0 : Int))].getD 5 (0 : Int)), ([((ret11v.1.getD (v19).toNat (List.replicate 7 (0 : Int))).getD 0 (0 : Int)), ((ret11v.1.getD (v19).toNat (List.replicate 7 (0 : Int))).getD 1 (0 : Int)), ((ret11v.1.getD (v19).toNat (List.replicate 7 (0 : Int))).getD 2 (0 : Int)), ((ret11v.1.getD (v19).toNat (List.replicate 7 (0 : Int))).getD 3 (0 : Int)), ((ret11v.1.getD (v19).toNat (List.replicate 7 (0 : Int))).getD 4 (0 : Int)), ((ret11v.1.getD (v19).toNat (List.replicate 7 (0 : Int))).getD 5 (0 : Int)), ((ret11v.1.getD (v19).toNat (List.replicate 7 (0 : Int))).getD 6 (0 : Int))].getD 6 (0 : Int))] _ h) (fun hg => noF hg) (fun ret32v h => ?_)
          have h : (((!(decide ([(ret32v.getD 0 (0 : Int)), (ret32v.getD 1 (0 : Int)), (ret32v.getD 2 (0 : Int)), (ret32v.getD 3 (0 : Int)), (ret32v.getD 4 (0 : Int)), (ret32v.getD 5 (0 : Int)), (ret32v.getD 6 (0 : Int))] = [(power.getD 0 (0 : Int)), (power.getD 1 (0 : Int)), (power.getD 2 (0 : Int)), (power.getD 3 (0 : Int)), (power.getD 4 (0 : Int)), (power.getD 5 (0 : Int)), (power.getD 6 (0 : Int))]))) = true → K (false, (0 : Int))) ∧ ((!(decide ([(ret32v.getD 0 (0 : Int)), (ret32v.getD 1 (0 : Int)), (ret32v.getD 2 (0 : Int)), (ret32v.getD 3 (0 : Int)), (ret32v.getD 4 (0 : Int)), (ret32v.getD 5 (0 : Int)), (ret32v.getD 6 (0 : Int))] = [(power.getD 0 (0 : Int)), (power.getD 1 (0 : Int)), (power.getD 2 (0 : Int)), (power.getD 3 (0 : Int)), (power.getD 4 (0 : Int)), (power.getD 5 (0 : Int)), (power.getD 6 (0 : Int))]))) = false → (InR (v19 + (1 : Int)) ∧ X1 (v19 + (1 : Int))))) := h
          refine awd_runp (by kernel_rfl) [4] [17, 18, 19, 34] [] (ob := (True ∧ True)) (done' := [4, 2, 3, 1, 0]) (st' := (⟨36, [(17, [], .v (.c (.p (.sl (.ar 6 (.int .i64))) ret11v.1))), (18, [], .v (.c (.p (.int .i64) (ret11v.1.length : Int)))), (19, [], .v (.c (.p (.int .i64) v19))), (34, [], .v (.c (.p .bool (!(decide ([(ret32v.getD 0 (0 : Int)), (ret32v.getD 1 (0 : Int)), (ret32v.getD 2 (0 : Int)), (ret32v.getD 3 (0 : Int)), (ret32v.getD 4 (0 : Int)), (ret32v.getD 5 (0 : Int)), (ret32v.getD 6 (0 : Int))] = [(power.getD 0 (0 : Int)), (power.getD 1 (0 : Int)), (power.getD 2 (0 : Int)), (power.getD 3 (0 : Int)), (power.getD 4 (0 : Int)), (power.getD 5 (0 : Int)), (power.getD 6 (0 : Int))]))))))], []⟩ : St)) (by kernel_rfl) ⟨trivial, trivial⟩ ?_
          refine awd_done (by kernel_rfl) ?_
          refine thenQ_n ?_
          refine aw_cond (b := (!(decide ([(ret32v.getD 0 (0 : Int)), (ret32v.getD 1 (0 : Int)), (ret32v.getD 2 (0 : Int)), (ret32v.getD 3 (0 : Int)), (ret32v.getD 4 (0 : Int)), (ret32v.getD 5 (0 : Int)), (ret32v.getD 6 (0 : Int))] = [(power.getD 0 (0 : Int)), (power.getD 1 (0 : Int)), (power.getD 2 (0 : Int)), (power.getD 3 (0 : Int)), (power.getD 4 (0 : Int)), (power.getD 5 (0 : Int)), (power.getD 6 (0 : Int))])))) (by kernel_rfl) (fun hb => ?_) (fun hb => ?_)
          · have h := h.1 hb
            refine aw_seq ?_
            refine aw_region ?_
            refine awl_runp 2 [2, 3] [] (ob := (True ∧ True ∧ True)) (st' := (⟨36, [(2, [], .v (.c (.p .bool false))), (3, [], .v (.c (.p (.int .i64) (0 : Int))))], []⟩ : St)) (by kernel_rfl) ⟨trivial, trivial, trivial⟩ ?_
            refine awl_nil ?_
            refine thenQ_n ?_
            refine aw_ret ?_
            refine blockQ_r ?_
            refine thenQ_r ?_
            refine thenQ_r ?_
            refine blockQ_r ?_
            refine thenQ_r ?_
            exact retQ_r (σ := Bool × Int) (R := (fun y => [toV1 .bool y.1, toV1 (.int .i64) y.2])) (ob := (True ∧ True ∧ True)) (false, (0 : Int)) (by kernel_rfl) ⟨trivial, trivial, trivial⟩ h
          · have h := h.2 hb
            refine aw_skip ?_
            refine blockQ_n ?_
            refine thenQ_n ?_
            refine aw_region ?_
            obtain ⟨o1, h⟩ := h
            refine awl_runp 2 [17, 18, 19] [] (ob := (InR (v19 + (1 : Int)) ∧ True ∧ True)) (st' := (⟨36, [(17, [], .v (.c (.p (.sl (.ar 6 (.int .i64))) ret11v.1))), (18, [], .v (.c (.p (.int .i64) (ret11v.1.length : Int)))), (19, [], .v (.c (.p (.int .i64) (v19 + (1 : Int)))))], []⟩ : St)) (by kernel_rfl) ⟨o1, trivial, trivial⟩ ?_
            refine awl_nil ?_
            exact thenQ_n ⟨(v19 + (1 : Int)), rfl, h⟩
        · refine aw_block ?_
          refine aw_loop (σ := Int × (List Int)) (fun s => (⟨36, [(7, [], .v (.c (.ptr 7 0))), (8, [], .v (.c (.ptr 8 0))), (17, [], .v (.c (.p (.sl (.ar 6 (.int .i64))) ret11v.1))), (18, [], .v (.c (.p (.int .i64) (ret11v.1.length : Int)))), (19, [], .v (.c (.p (.int .i64) v19))), (24, [], .v (.c (.p (.int .i64) s.1)))], [(7, [], .vec 7 (.int .i64) [((ret11v.1.getD (v19).toNat (List.replicate 7 (0 : Int))).getD 0 (0 : Int)), ((ret11v.1.getD (v19).toNat (List.replicate 7 (0 : Int))).getD 1 (0 : Int)), ((ret11v.1.getD (v19).toNat (List.replicate 7 (0 : Int))).getD 2 (0 : Int)), ((ret11v.1.getD (v19).toNat (List.replicate 7 (0 : Int))).getD 3 (0 : Int)), ((ret11v.1.getD (v19).toNat (List.replicate 7 (0 : Int))).getD 4 (0 : Int)), ((ret11v.1.getD (v19).toNat (List.replicate 7 (0 : Int))).getD 5 (0 : Int)), ((ret11v.1.getD (v19).toNat (List.replicate 7 (0 : Int))).getD 6 (0 : Int))]), (8, [], .vec 7 (.int .i64) s.2)]⟩ : St)) (fun s X => VC37_l2 K ret11v v19 X1 s.1 s.2 X) (s0 := ((0 : Int), [([((ret11v.1.getD (v19).toNat (List.replicate 7 (0 : Int))).getD 0 (0 : Int)), ((ret11v.1.getD (v19).toNat (List.replicate 7 (0 : Int))).getD 1 (0 : Int)), ((ret11v.1.getD (v19).toNat (List.replicate 7 (0 : Int))).getD 2 (0 : Int)), ((ret11v.1.getD (v19).toNat (List.replicate 7 (0 : Int))).getD 3 (0 : Int)), ((ret11v.1.getD (v19).toNat (List.replicate 7 (0 : Int))).getD 4 (0 : Int)), ((ret11v.1.getD (v19).toNat (List.replicate 7 (0 : Int))).getD 5 (0 : Int)), ((ret11v.1.getD (v19).toNat (List.replicate 7 (0 : Int))).getD 6 (0 : Int))].getD 0 (0 : Int)), ([((ret11v.1.getD (v19).toNat (List.replicate 7 (0 : Int))).getD 0 (0 : Int)), ((ret11v.1.getD (v19).toNat (List.replicate 7 (0 : Int))).getD 1 (0 : Int)), ((ret11v.1.getD (v19).toNat (List.replicate 7 (0 : Int))).getD 2 (0 : Int)), ((ret11v.1.getD (v19).toNat (List.replicate 7 (0 : Int))).getD 3 (0 : Int)), ((ret11v.1.getD (v19).toNat (List.replicate 7 (0 : Int))).getD 4 (0 : Int)), ((ret11v.1.getD (v19).toNat (List.replicate 7 (0 : Int))).getD 5 (0 : Int)), ((ret11v.1.getD (v19).toNat (List.replicate 7 (0 : Int))).getD 6 (0 : Int))].getD 1 (0 : Int)), ([((ret11v.1.getD (v19).toNat (List.replicate 7 (0 : Int))).getD 0 (0 : Int)), ((ret11v.1.getD (v19).toNat (List.replicate 7 (0 : Int))).getD 1 (0 : Int)), ((ret11v.1.getD (v19).toNat (List.replicate 7 (0 : Int))).getD 2 (0 : Int)), ((ret11v.1.getD (v19).toNat (List.replicate 7 (0 : Int))).getD 3 (0 : Int)), ((ret11v.1.getD (v19).toNat (List.replicate 7 (0 : Int))).getD 4 (0 : Int)), ((ret11v.1.getD (v19).toNat (List.replicate 7 (0 : Int))).getD 5 (0 : Int)), ((ret11v.1.getD (v19).toNat (List.replicate 7 (0 : Int))).getD 6 (0 : Int))].getD 2 (0 : Int)), ([((ret11v.1.getD (v19).toNat (List.replicate 7 (0 : Int))).getD 0 (0 : Int)), ((ret11v.1.getD (v19).toNat (List.replicate 7 (0 : Int))).getD 1 (0 : Int)), ((ret11v.1.getD (v19).toNat (List.replicate 7 (0 : Int))).getD 2 (0 : Int)), ((ret11v.1.getD (v19).toNat (List.replicate 7 (0 : Int))).getD 3 (0 : Int)), ((ret11v.1.getD (v19).toNat (List.replicate 7 (0 : Int))).getD 4 (0 : Int)), ((ret11v.1.getD (v19).toNat (List.replicate 7 (0 : Int))).getD 5 (0 : Int)), ((ret11v.1.getD (v19).toNat (List.replicate 7 (0 : Int))).getD 6 (0 : Int))].getD 3 (0 : Int)), ([((ret11v.1.getD (v19).toNat (List.replicate 7 (0 : Int))).getD 0 (0 : Int)), ((ret11v.1.getD (v19).toNat (List.replicate 7 (0 : Int))).getD 1 (0 : Int)), ((ret11v.1.getD (v19).toNat (List.replicate 7 (0 : Int))).getD 2 (0 : Int)), ((ret11v.1.getD (v19).toNat (List.replicate 7 (0 : Int))).getD 3 (0 : Int)), ((ret11v.1.getD (v19).toNat (List.replicate 7 (0 : Int))).getD 4 (0 : Int)), ((ret11v.1.getD (v19).toNat (List.replicate 7 (0 : Int))).getD 5 (0 : Int)), ((ret11v.1.getD (v19).toNat (List.replicate 7 (0 : Int))).getD 6 (0 : Int))].getD 4 (0 : Int)), ([((ret11v.1.getD (v19).toNat (List.replicate 7 (0 : Int))).getD 0 (0 : Int)), ((ret11v.1.getD (v19).toNat (List.replicate 7 (0 : Int))).getD 1 (0 : Int)), ((ret11v.1.getD (v19).toNat (List.replicate 7 (0 : Int))).getD 2 (0 : Int)), ((ret11v.1.getD (v19).toNat (List.replicate 7 (0 : Int))).getD 3 (0 : Int)), ((ret11v.1.getD (v19).toNat (List.replicate 7 (0 : Int))).getD 4 (0 : Int)), ((ret11v.1.getD (v19).toNat (List.replicate 7 (0 : Int))).getD 5 (0 : Int)), ((ret11v.1.getD (v19).toNat (List.replicate 7 (0 : Int))).getD 6 (0 : Int))].getD 5 (0 : Int)), ([((ret11v.1.getD (v19).toNat (List.replicate 7 (0 : Int))).getD 0 (0 : Int)), ((ret11v.1.getD (v19).toNat (List.replicate 7 (0 : Int))).getD 1 (0 : Int)), ((ret11v.1.getD (v19).toNat (List.replicate 7 (0 : Int))).getD 2 (0 : Int)), ((ret11v.1.getD (v19).toNat (List.replicate 7 (0 : Int))).getD 3 (0 : Int)), ((ret11v.1.getD (v19).toNat (List.replicate 7 (0 : Int))).getD 4 (0 : Int)), ((ret11v.1.getD (v19).toNat (List.replicate 7 (0 : Int))).getD 5 (0 : Int)), ((ret11v.1.getD (v19).toNat (List.replicate 7 (0 : Int))).getD 6 (0 : Int))].getD 6 (0 : Int))])) (fun s X2 h => ?_) h
          obtain ⟨v24, power⟩ := s
          have h : VC37_l2 K ret11v v19 X1 v24 power X2 := h
          unfold VC37_l2 at h
          refine aw_seq ?_
          refine aw_region ?_
          refine awl_runp 1 [7, 8, 17, 18, 19, 24, 25] [7, 8] (ob := (True ∧ True)) (st' := (⟨36, [(7, [], .v (.c (.ptr 7 0))), (8, [], .v (.c (.ptr 8 0))), (17, [], .v (.c (.p (.sl (.ar 6 (.int .i64))) ret11v.1))), (18, [], .v (.c (.p (.int .i64) (ret11v.1.length : Int)))), (19, [], .v (.c (.p (.int .i64) v19))), (24, [], .v (.c (.p (.int .i64) v24))), (25, [], .v (.c (.p .bool (decide (v24 < (100 : Int))))))], [(7, [], .vec 7 (.int .i64) [((ret11v.1.getD (v19).toNat (List.replicate 7 (0 : Int))).getD 0 (0 : Int)), ((ret11v.1.getD (v19).toNat (List.replicate 7 (0 : Int))).getD 1 (0 : Int)), ((ret11v.1.getD (v19).toNat (List.replicate 7 (0 : Int))).getD 2 (0 : Int)), ((ret11v.1.getD (v19).toNat (List.replicate 7 (0 : Int))).getD 3 (0 : Int)), ((ret11v.1.getD (v19).toNat (List.replicate 7 (0 : Int))).getD 4 (0 : Int)), ((ret11v.1.getD (v19).toNat (List.replicate 7 (0 : Int))).getD 5 (0 : Int)), ((ret11v.1.getD (v19).toNat (List.replicate 7 (0 : Int))).getD 6 (0 : Int))]), (8, [], .vec 7 (.int .i64) power)]⟩ : St)) (by kernel_rfl) ⟨trivial, trivial⟩ ?_
          refine awl_nil ?_
          refine thenQ_n ?_
          refine aw_seq ?_
          refine aw_cond (b := (decide (v24 < (100 : Int)))) (by kernel_rfl) (fun hb => ?_) (fun hb => ?_)
          · have h := h.1 hb
            refine aw_skip ?_
            refine thenQ_n ?_
            refine aw_seq ?_
            refine aw_block ?_
            refine aw_region ?_
            refine awl_runp 2 [7, 8, 17, 18, 19, 24, 26, 27] [7, 8] (ob := (True ∧ True ∧ True)) (st' := (⟨36, [(7, [], .v (.c (.ptr 7 0))), (8, [], .v (.c (.ptr 8 0))), (17, [], .v (.c (.p (.sl (.ar 6 (.int .i64))) ret11v.1))), (18, [], .v (.c (.p (.int .i64) (ret11v.1.length : Int)))), (19, [], .v (.c (.p (.int .i64) v19))), (24, [], .v (.c (.p (.int .i64) v24))), (26, [], .v (.agg [.p (.int .i64) (power.getD 0 (0 : Int)), .p (.int .i64) (power.getD 1 (0 : Int)), .p (.int .i64) (power.getD 2 (0 : Int)), .p (.int .i64) (power.getD 3 (0 : Int)), .p (.int .i64) (power.getD 4 (0 : Int)), .p (.int .i64) (power.getD 5 (0 : Int)), .p (.int .i64) (power.getD 6 (0 : Int))])), (27, [], .v (.agg [.p (.int .i64) ([((ret11v.1.getD (v19).toNat (List.replicate 7 (0 : Int))).getD 0 (0 : Int)), ((ret11v.1.getD (v19).toNat (List.replicate 7 (0 : Int))).getD 1 (0 : Int)), ((ret11v.1.getD (v19).toNat (List.replicate 7 (0 : Int))).getD 2 (0 : Int)), ((ret11v.1.getD (v19).toNat (List.replicate 7 (0 : Int))).getD 3 (0 : Int)), ((ret11v.1.getD (v19).toNat (List.replicate 7 (0 : Int))).getD 4 (0 : Int)), ((ret11v.1.getD (v19).toNat (List.replicate 7 (0 : Int))).getD 5 (0 : Int)), ((ret11v.1.getD (v19).toNat (List.replicate 7 (0 : Int))).getD 6 (0 : Int))].getD 0 (0 : Int)), .p (.int .i64) ([((ret11v.1.getD (v19).toNat (List.replicate 7 (0 : Int))).getD 0 (0 : Int)), ((ret11v.1.getD (v19).toNat (List.replicate 7 (0 : Int))).getD 1 (0 : Int)), ((ret11v.1.getD (v19).toNat (List.replicate 7 (0 : Int))).getD 2 (0 : Int)), ((ret11v.1.getD (v19).toNat (List.replicate 7 (0 : Int))).getD 3 (0 : Int)), ((ret11v.1.getD (v19).toNat (List.replicate 7 (0 : Int))).getD 4 (0 : Int)), ((ret11v.1.getD (v19).toNat (List.replicate 7 (0 : Int))).getD 5 (0 : Int)), ((ret11v.1.getD (v19).toNat (List.replicate 7 (0 : Int))).getD 6 (0 : Int))].getD 1 (0 : Int)), .p (.int .i64) ([((ret11v.1.getD (v19).toNat (List.replicate 7 (0 : Int))).getD 0 (0 : Int)), ((ret11v.1.getD (v19).toNat (List.replicate 7 (0 : Int))).getD 1 (0 : Int)), ((ret11v.1.getD (v19).toNat (List.replicate 7 (0 : Int))).getD 2 (0 : Int)), ((ret11v.1.getD (v19).toNat (List.replicate 7 (0 : Int))).getD 3 (0 : Int)), ((ret11v.1.getD (v19).toNat (List.replicate 7 (0 : Int))).getD 4 (0 : Int)), ((ret11v.1.getD (v19).toNat (List.replicate 7 (0 : Int))).getD 5 (0 : Int)), ((ret11v.1.getD (v19).toNat (List.replicate 7 (0 : Int))).getD 6 (0 : Int))].getD 2 (0 : Int)), .p (.int .i64) ([((ret11v.1.getD (v19).toNat (List.replicate 7 (0 : Int))).getD 0 (0 : Int)), ((ret11v.1.getD (v19).toNat (List.replicate 7 (0 : Int))).getD 1 (0 : Int)), ((ret11v.1.getD (v19).toNat (List.replicate 7 (0 : Int))).getD 2 (0 : Int)), ((ret11v.1.getD (v19).toNat (List.replicate 7 (0 : Int))).getD 3 (0 : Int)), ((ret11v.1.getD (v19).toNat (List.replicate 7 (0 : Int))).getD 4 (0 : Int)), ((ret11v.1.getD (v19).toNat (List.replicate 7 (0 : Int))).getD 5 (0 : Int)), ((ret11v.1.getD (v19).toNat (List.replicate 7 (0 : Int))).getD 6 (0 : Int))].getD 3 (0 : Int)), .p (.int .i64) ([((ret11v.1.getD (v19).toNat (List.replicate 7 (0 : Int))).getD 0 (0 : Int)), ((ret11v.1.getD (v19).toNat (List.replicate 7 (0 : Int))).getD 1 (0 : Int)), ((ret11v.1.getD (v19).toNat (List.replicate 7 (0 : Int))).getD 2 (0 : Int)), ((ret11v.1.getD (v19).toNat (List.replicate 7 (0 : Int))).getD 3 (0 : Int)), ((ret11v.1.getD (v19).toNat (List.replicate 7 (0 : Int))).getD 4 (0 : Int)), ((ret11v.1.getD (v19).toNat (List.replicate 7 (0 : Int))).getD 5 (0 : Int)), ((ret11v.1.getD (v19).toNat (List.replicate 7 (0 : Int))).getD 6 (0 : Int))].getD 4 (0 : Int)), .p (.int .i64) ([((ret11v.1.getD (v19).toNat (List.replicate 7 (0 : Int))).getD 0 (0 : Int)), ((ret11v.1.getD (v19).toNat (List.replicate 7 (0 : Int))).getD 1 (0 : Int)), ((ret11v.1.getD (v19).toNat (List.replicate 7 (0 : Int))).getD 2 (0 : Int)), ((ret11v.1.getD (v19).toNat (List.replicate 7 (0 : Int))).getD 3 (0 : Int)), ((ret11v.1.getD (v19).toNat (List.replicate 7 (0 : Int))).getD 4 (0 : Int)), ((ret11v.1.getD (v19).toNat (List.replicate 7 (0 : Int))).getD 5 (0 : Int)), ((ret11v.1.getD (v19).toNat (List.replicate 7 (0 : Int))).getD 6 (0 : Int))].getD 5 (0 : Int)), .p (.int .i64) ([((ret11v.1.getD (v19).toNat (List.replicate 7 (0 : Int))).getD 0 (0 : Int)), ((ret11v.1.getD (v19).toNat (List.replicate 7 (0 : Int))).getD 1 (0 : Int)), ((ret11v.1.getD (v19).toNat (List.replicate 7 (0 : Int))).getD 2 (0 : Int)), ((ret11v.1.getD (v19).toNat (List.replicate 7 (0 : Int))).getD 3 (0 : Int)), ((ret11v.1.getD (v19).toNat (List.replicate 7 (0 : Int))).getD 4 (0 : Int)), ((ret11v.1.getD (v19).toNat (List.replicate 7 (0 : Int))).getD 5 (0 : Int)), ((ret11v.1.getD (v19).toNat (List.replicate 7 (0 : Int))).getD 6 (0 : Int))].getD 6 (0 : Int))]))], [(7, [], .vec 7 (.int .i64) [((ret11v.1.getD (v19).toNat (List.replicate 7 (0 : Int))).getD 0 (0 : Int)), ((ret11v.1.getD (v19).toNat (List.replicate 7 (0 : Int))).getD 1 (0 : Int)), ((ret11v.1.getD (v19).toNat (List.replicate 7 (0 : Int))).getD 2 (0 : Int)), ((ret11v.1.getD (v19).toNat (List.replicate 7 (0 : Int))).getD 3 (0 : Int)), ((ret11v.1.getD (v19).toNat (List.replicate 7 (0 : Int))).getD 4 (0 : Int)), ((ret11v.1.getD (v19).toNat (List.replicate 7 (0 : Int))).getD 5 (0 : Int)), ((ret11v.1.getD (v19).toNat (List.replicate 7 (0 : Int))).getD 6 (0 : Int))]), (8, [], .vec 7 (.int .i64) power)]⟩ : St)) (by kernel_rfl) ⟨trivial, trivial, trivial⟩ ?_
            refine awl_callk (p := []) (l := [toV1 (.ar 6 (.int .i64)) [(power.getD 0 (0 : Int)), (power.getD 1 (0 : Int)), (power.getD 2 (0 : Int)), (power.getD 3 (0 : Int)), (power.getD 4 (0 : Int)), (power.getD 5 (0 : Int)), (power.getD 6 (0 : Int))], toV1 (.ar 6 (.int .i64)) [([((ret11v.1.getD (v19).toNat (List.replicate 7 (0 : Int))).getD 0 (0 : Int)), ((ret11v.1.getD (v19).toNat (List.replicate 7 (0 : Int))).getD 1 (0 : Int)), ((ret11v.1.getD (v19).toNat (List.replicate 7 (0 : Int))).getD 2 (0 : Int)), ((ret11v.1.getD (v19).toNat (List.replicate 7 (0 : Int))).getD 3 (0 : Int)), ((ret11v.1.getD (v19).toNat (List.replicate 7 (0 : Int))).getD 4 (0 : Int)), ((ret11v.1.getD (v19).toNat (List.replicate 7 (0 : Int))).getD 5 (0 : Int)), ((ret11v.1.getD (v19).toNat (List.replicate 7 (0 : Int))).getD 6 (0 : Int))].getD 0 (0 : Int)), ([((ret11v.1.getD (v19).toNat (List.replicate 7 (0 : Int))).getD 0 (0 : Int)), ((ret11v.1.getD (v19).toNat (List.replicate 7 (0 : Int))).getD 1 (0 : Int)), ((ret11v.1.getD (v19).toNat (List.replicate 7 (0 : Int))).getD 2 (0 : Int)), ((ret11v.1.getD (v19).toNat (List.replicate 7 (0 : Int))).getD 3 (0 : Int)), ((ret11v.1.getD (v19).toNat (List.replicate 7 (0 : Int))).getD 4 (0 : Int)), ((ret11v.1.getD (v19).toNat (List.replicate 7 (0 : Int))).getD 5 (0 : Int)), ((ret11v.1.getD (v19).toNat (List.replicate 7 (0 : Int))).getD 6 (0 : Int))].getD 1 (0 : Int)), ([((ret11v.1.getD (v19).toNat (List.replicate 7 (0 : Int))).getD 0 (0 : Int)), ((ret11v.1.getD (v19).toNat (List.replicate 7 (0 : Int))).getD 1 (0 : Int)), ((ret11v.1.getD (v19).toNat (List.replicate 7 (0 : Int))).getD 2 (0 : Int)), ((ret11v.1.getD (v19).toNat (List.replicate 7 (0 : Int))).getD 3 (0 : Int)), ((ret11v.1.getD (v19).toNat (List.replicate 7 (0 : Int))).getD 4 (0 : Int)), ((ret11v.1.getD (v19).toNat (List.replicate 7 (0 : Int))).getD 5 (0 : Int)), ((ret11v.1.getD (v19).toNat (List.replicate 7 (0 : Int))).getD 6 (0 : Int))].getD 2 (0 : Int)), ([((ret11v.1.getD (v19).toNat (List.replicate 7 (0 : Int))).getD 0 (0 : Int)), ((ret11v.1.getD (v19).toNat (List.replicate 7 (0 : Int))).getD 1 (0 : Int)), ((ret11v.1.getD (v19).toNat (List.replicate 7 (0 : Int))).getD 2 (0 : Int)), ((ret11v.1.getD (v19).toNat (List.replicate 7 (0 : Int))).getD 3 (0 : Int)), ((ret11v.1.getD (v19).toNat (List.replicate 7 (0 : Int))).getD 4 (0 : Int)), ((ret11v.1.getD (v19).toNat (List.replicate 7 (0 : Int))).getD 5 (0 : Int)), ((ret11v.1.getD (v19).toNat (List.replicate 7 (0 : Int))).getD 6 (0 : Int))].getD 3 (0 : Int)), ([((ret11v.1.getD (v19).toNat (List.replicate 7 (0 : Int))).getD 0 (0 : Int)), ((ret11v.1.getD (v19).toNat (List.replicate 7 (0 : Int))).getD 1 (0 : Int)), ((ret11v.1.getD (v19).toNat (List.replicate 7 (0 : Int))).getD 2 (0 : Int)), ((ret11v.1.getD (v19).toNat (List.replicate 7 (0 : Int))).getD 3 (0 : Int)), ((ret11v.1.getD (v19).toNat (List.replicate 7 (0 : Int))).getD 4 (0 : Int)), ((ret11v.1.getD (v19).toNat (List.replicate 7 (0 : Int))).getD 5 (0 : Int)), ((ret11v.1.getD (v19).toNat (List.replicate 7 (0 : Int))).getD 6 (0 : Int))].getD 4 (0 : Int)), ([((ret11v.1.getD (v19).toNat (List.replicate 7 (0 : Int))).getD 0 (0 : Int)), ((ret11v.1.getD (v19).toNat (List.replicate 7 (0 : Int))).getD 1 (0 : Int)), ((ret11v.1.getD (v19).toNat (List.replicate 7 (0 : Int))).getD 2 (0 : Int)), ((ret11v.1.getD (v19).toNat (List.replicate 7 (0 : Int))).getD 3 (0 : Int)), ((ret11v.1.getD (v19).toNat (List.replicate 7 (0 : Int))).getD 4 (0 : Int)), ((ret11v.1.getD (v19).toNat (List.replicate 7 (0 : Int))).getD 5 (0 : Int)), ((ret11v.1.getD (v19).toNat (List.replicate 7 (0 : Int))).getD 6 (0 : Int))].getD 5 (0 : Int)), ([((ret11v.1.getD (v19).toNat (List.replicate 7 (0 : Int))).getD 0 (0 : Int)), ((ret11v.1.getD (v19).toNat (List.replicate 7 (0 : Int))).getD 1 (0 : Int)), ((ret11v.1.getD (v19).toNat (List.replicate 7 (0 : Int))).getD 2 (0 : Int)), ((ret11v.1.getD (v19).toNat (List.replicate 7 (0 : Int))).getD 3 (0 : Int)), ((ret11v.1.getD (v19).toNat (List.replicate 7 (0 : Int))).getD 4 (0 : Int)), ((ret11v.1.getD (v19).toNat (List.replicate 7 (0 : Int))).getD 5 (0 : Int)), ((ret11v.1.getD (v19).toNat (List.replicate 7 (0 : Int))).getD 6 (0 : Int))].getD 6 (0 : Int))]]) (cl := []) false [.d (.ar 6 (.int .i64)), .d (.ar 6 (.int .i64))] [7, 8, 17, 18, 19, 24, 28] [7, 8] (fun (ret28v : (List Int)) => (InR (v24 + (1 : Int)) ∧ X2 ((v24 + (1 : Int)), [(ret28v.getD 0 (0 : Int)), (ret28v.getD 1 (0 : Int)), (ret28v.getD 2 (0 : Int)), (ret28v.getD 3 (0 : Int)), (ret28v.getD 4 (0 : Int)), (ret28v.getD 5 (0 : Int)), (ret28v.getD 6 (0 : Int))]))) (fun ret28v => [toV1 (.ar 6 (.int .i64)) ret28v]) (fun ret28v => (⟨36, [(7, [], .v (.c (.ptr 7 0))), (8, [], .v (.c (.ptr 8 0))), (17, [], .v (.c (.p (.sl (.ar 6 (.int .i64))) ret11v.1))), (18, [], .v (.c (.p (.int .i64) (ret11v.1.length : Int)))), (19, [], .v (.c (.p (.int .i64) v19))), (24, [], .v (.c (.p (.int .i64) v24))), (28, [], .v (.agg [.p (.int .i64) (ret28v.getD 0 (0 : Int)), .p (.int .i64) (ret28v.getD 1 (0 : Int)), .p (.int .i64) (ret28v.getD 2 (0 : Int)), .p (.int .i64) (ret28v.getD 3 (0 : Int)), .p (.int .i64) (ret28v.getD 4 (0 : Int)), .p (.int .i64) (ret28v.getD 5 (0 : Int)), .p (.int .i64) (ret28v.getD 6 (0 : Int))]))], [(7, [], .vec 7 (.int .i64) [((ret11v.1.getD (v19).toNat (List.replicate 7 (0 : Int))).getD 0 (0 : Int)), ((ret11v.1.getD (v19).toNat (List.replicate 7 (0 : Int))).getD 1 (0 : Int)), ((ret11v.1.getD (v19).toNat (List.replicate 7 (0 : Int))).getD 2 (0 : Int)), ((ret11v.1.getD (v19).toNat (List.replicate 7 (0 : Int))).getD 3 (0 : Int)), ((ret11v.1.getD (v19).toNat (List.replicate 7 (0 : Int))).getD 4 (0 : Int)), ((ret11v.1.getD (v19).toNat (List.replicate 7 (0 : Int))).getD 5 (0 : Int)), ((ret11v.1.getD (v19).toNat (List.replicate 7 (0 : Int))).getD 6 (0 : Int))]), (8, [], .vec 7 (.int .i64) power)]⟩ : St)) (by kernel_rfl) rfl (by kernel_rfl) rfl (by kernel_rfl) Try.call60 (by kernel_rfl) (fun ret28v => by kernel_rfl) (fun e => by cases e) (fun hg => link60 [(power.getD 0 (0 : Int)), (power.getD 1 (0 : Int)), (power.getD 2 (0 : Int)), (power.getD 3 (0 : Int)), (power.getD 4 (0 : Int)), (power.getD 5 (0 : Int)), (power.getD 6 (0 : Int))] [([((ret11v.1.getD (v19).toNat (List.replicate 7 (0 : Int))).getD 0 (0 : Int)), ((ret11v.1.getD (v19).toNat (List.replicate 7 (0 : Int))).getD 1 (0 : Int)), ((ret11v.1.getD (v19).toNat (List.replicate 7 (0 : Int))).getD 2 (0 : Int)), ((ret11v.1.getD (v19).toNat (List.replicate 7 (0 : Int))).getD 3 (0 : Int)), ((ret11v.1.getD (v19).toNat (List.replicate 7 (0 : Int))).getD 4 (0 : Int)), ((ret11v.1.getD (v19).toNat (List.replicate 7 (0 : Int))).getD 5 (0 : Int)), ((ret11v.1.getD (v19).toNat (List.replicate 7 (0 : Int))).getD 6 (0 : Int))].getD 0 (0 : Int)), ([((ret11v.1.getD (v19).toNat (List.replicate 7 (0 : Int))).getD 0 (0 : Int)), ((ret11v.1.getD (v19).toNat (List.replicate 7 (0 : Int))).getD 1 (0 : Int)), ((ret11v.1.getD (v19).toNat (List.replicate 7 (0 : Int))).getD 2 (0 : Int)), ((ret11v.1.getD (v19).toNat (List.replicate 7 (0 : Int))).getD 3 (0 : Int)), ((ret11v.1.getD (v19).toNat (List.replicate 7 (0 : Int))).getD 4 (0 : Int)), ((ret11v.1.getD (v19).toNat (List.replicate 7 (0 : Int))).getD 5 (0 : Int)), ((ret11v.1.getD (v19).toNat (List.replicate 7 (0 : Int))).getD 6 (0 : Int))].getD 1 (0 : Int)), ([((ret11v.1.getD (v19).toNat (List.replicate 7 (0 : Int))).getD 0 (0 : Int)), ((ret11v.1.getD (v19).toNat (List.replicate 7 (0 : Int))).getD 1 (0 : Int)), ((ret11v.1.getD (v19).toNat (List.replicate 7 (0 : Int))).getD 2 (0 : Int)), ((ret11v.1.getD (v19).toNat (List.replicate 7 (0 : Int))).getD 3 (0 : Int)), ((ret11v.1.getD (v19).toNat (List.replicate 7 (0 : Int))).getD 4 (0 : Int)), ((ret11v.1.getD (v19).toNat (List.replicate 7 (0 : Int))).getD 5 (0 : Int)), ((ret11v.1.getD (v19).toNat (List.replicate 7 (0 : Int))).getD 6 (0 : Int))].getD 2 (0 : Int)), ([((ret11v.1.getD (v19).toNat (List.replicate 7 (0 : Int))).getD 0 (0 : Int)), ((ret11v.1.getD (v19).toNat (List.replicate 7 (0 : Int))).getD 1 (0 : Int)), ((ret11v.1.getD (v19).toNat (List.replicate 7 (0 : Int))).getD 2 (0 : Int)), ((ret11v.1.getD (v19).toNat (List.replicate 7 (0 : Int))).getD 3 (0 : Int)), ((ret11v.1.getD (v19).toNat (List.replicate 7 (0 : Int))).getD 4 (0 : Int)), ((ret11v.1.getD (v19).toNat (List.replicate 7 (0 : Int))).getD 5 (0 : Int)), ((ret11v.1.getD (v19).toNat (List.replicate 7 (0 : Int))).getD 6 (0 : Int))].getD 3 (0 : Int)), ([((ret11v.1.getD (v19).toNat (List.replicate 7 (0 : Int))).getD 0 (0 : Int)), ((ret11v.1.getD (v19).toNat (List.replicate 7 (0 : Int))).getD 1 (0 : Int)), ((ret11v.1.getD (v19).toNat (List.replicate 7 (0 : Int))).getD 2 (0 : Int)), ((ret11v.1.getD (v19).toNat (List.replicate 7 (0 : Int))).getD 3 (0 : Int)), ((ret11v.1.getD (v19).toNat (List.replicate 7 (0 : Int))).getD 4 (0 : Int)), ((ret11v.1.getD (v19).toNat (List.replicate 7 (0 : Int))).getD 5 (0 : Int)), ((ret11v.1.getD (v19).toNat (List.replicate 7 (0 : Int))).getD 6 (0 : Int))].getD 4 (0 : Int)), ([((ret11v.1.getD (v19).toNat (List.replicate 7 (0 : Int))).getD 0 (0 : Int)), ((ret11v.1.getD (v19).toNat (List.replicate 7 (0 : Int))).getD 1 (0 : Int)), ((ret11v.1.getD (v19).toNat (List.replicate 7 (0 : Int))).getD 2 (0 : Int)), ((ret11v.1.getD (v19).toNat (List.replicate 7 (0 : Int))).getD 3 (0 : Int)), ((ret11v.1.getD (v19).toNat (List.replicate 7 (0 : Int))).getD 4 (0 : Int)), ((ret11v.1.getD (v19).toNat (List.replicate 7 (0 : Int))).getD 5 (0 : Int)), ((ret11v.1.getD (v19).toNat (List.replicate 7 (0 : Int))).getD 6 (0 : Int))].getD 5 (0 : Int)), ([((ret11v.1.getD (v19).toNat (List.replicate 7 (0 : Int))).getD 0 (0 : Int)), ((ret11v.1.getD (v19).toNat (List.replicate 7 (0 : Int))).getD 1 (0 : Int)), ((ret11v.1.getD (v19).toNat (List.replicate 7 (0 : Int))).getD 2 (0 : Int)), ((ret11v.1.getD (v19).toNat (List.replicate 7 (0 : Int))).getD 3 (0 : Int)), ((ret11v.1.getD (v19).toNat (List.replicate 7 (0 : Int))).getD 4 (0 : Int)), ((ret11v.1.getD (v19).toNat (List.replicate 7 (0 : Int))).getD 5 (0 : Int)), ((ret11v.1.getD (v19).toNat (List.replicate 7 (0 : Int))).getD 6 (0 : Int))].getD 6 (0 : Int))] _ h) (fun hg => noF hg) (fun ret28v h => ?_)
            have h : (InR (v24 + (1 : Int)) ∧ X2 ((v24 + (1 : Int)), [(ret28v.getD 0 (0 : Int)), (ret28v.getD 1 (0 : Int)), (ret28v.getD 2 (0 : Int)), (ret28v.getD 3 (0 : Int)), (ret28v.getD 4 (0 : Int)), (ret28v.getD 5 (0 : Int)), (ret28v.getD 6 (0 : Int))])) := h
            refine awl_runp 1 [7, 8, 17, 18, 19, 24] [7, 8] (ob := (True ∧ True)) (st' := (⟨36, [(7, [], .v (.c (.ptr 7 0))), (8, [], .v (.c (.ptr 8 0))), (17, [], .v (.c (.p (.sl (.ar 6 (.int .i64))) ret11v.1))), (18, [], .v (.c (.p (.int .i64) (ret11v.1.length : Int)))), (19, [], .v (.c (.p (.int .i64) v19))), (24, [], .v (.c (.p (.int .i64) v24)))], [(7, [], .vec 7 (.int .i64) [((ret11v.1.getD (v19).toNat (List.replicate 7 (0 : Int))).getD 0 (0 : Int)), ((ret11v.1.getD (v19).toNat (List.replicate 7 (0 : Int))).getD 1 (0 : Int)), ((ret11v.1.getD (v19).toNat (List.replicate 7 (0 : Int))).getD 2 (0 : Int)), ((ret11v.1.getD (v19).toNat (List.replicate 7 (0 : Int))).getD 3 (0 : Int)), ((ret11v.1.getD (v19).toNat (List.replicate 7 (0 : Int))).getD 4 (0 : Int)), ((ret11v.1.getD (v19).toNat (List.replicate 7 (0 : Int))).getD 5 (0 : Int)), ((ret11v.1.getD (v19).toNat (List.replicate 7 (0 : Int))).getD 6 (0 : Int))]), (8, [], .vec 7 (.int .i64) [(ret28v.getD 0 (0 : Int)), (ret28v.getD 1 (0 : Int)), (ret28v.getD 2 (0 : Int)), (ret28v.getD 3 (0 : Int)), (ret28v.getD 4 (0 : Int)), (ret28v.getD 5 (0 : Int)), (ret28v.getD 6 (0 : Int))])]⟩ : St)) (by kernel_rfl) ⟨trivial, trivial⟩ ?_
            refine awl_nil ?_
            refine blockQ_n ?_
            refine thenQ_n ?_
            refine aw_region ?_
            obtain ⟨o1, h⟩ := h
            refine awl_runp 2 [7, 8, 17, 18, 19, 24] [7, 8] (ob := (InR (v24 + (1 : Int)) ∧ True ∧ True)) (st' := (⟨36, [(7, [], .v (.c (.ptr 7 0))), (8, [], .v (.c (.ptr 8 0))), (17, [], .v (.c (.p (.sl (.ar 6 (.int .i64))) ret11v.1))), (18, [], .v (.c (.p (.int .i64) (ret11v.1.length : Int)))), (19, [], .v (.c (.p (.int .i64) v19))), (24, [], .v (.c (.p (.int .i64) (v24 + (1 : Int)))))], [(7, [], .vec 7 (.int .i64) [((ret11v.1.getD (v19).toNat (List.replicate 7 (0 : Int))).getD 0 (0 : Int)), ((ret11v.1.getD (v19).toNat (List.replicate 7 (0 : Int))).getD 1 (0 : Int)), ((ret11v.1.getD (v19).toNat (List.replicate 7 (0 : Int))).getD 2 (0 : Int)), ((ret11v.1.getD (v19).toNat (List.replicate 7 (0 : Int))).getD 3 (0 : Int)), ((ret11v.1.getD (v19).toNat (List.replicate 7 (0 : Int))).getD 4 (0 : Int)), ((ret11v.1.getD (v19).toNat (List.replicate 7 (0 : Int))).getD 5 (0 : Int)), ((ret11v.1.getD (v19).toNat (List.replicate 7 (0 : Int))).getD 6 (0 : Int))]), (8, [], .vec 7 (.int .i64) [(ret28v.getD 0 (0 : Int)), (ret28v.getD 1 (0 : Int)), (ret28v.getD 2 (0 : Int)), (ret28v.getD 3 (0 : Int)), (ret28v.getD 4 (0 : Int)), (ret28v.getD 5 (0 : Int)), (ret28v.getD 6 (0 : Int))])]⟩ : St)) (by kernel_rfl) ⟨o1, trivial, trivial⟩ ?_
            refine awl_nil ?_
            exact thenQ_n ⟨((v24 + (1 : Int)), [(ret28v.getD 0 (0 : Int)), (ret28v.getD 1 (0 : Int)), (ret28v.getD 2 (0 : Int)), (ret28v.getD 3 (0 : Int)), (ret28v.getD 4 (0 : Int)), (ret28v.getD 5 (0 : Int)), (ret28v.getD 6 (0 : Int))]), rfl, h⟩
          · have h := h.2 hb
            refine aw_conv [.prune [7, 8, 17, 18, 19] [7, 8]] (st' := (⟨36, [(7, [], .v (.c (.ptr 7 0))), (8, [], .v (.c (.ptr 8 0))), (17, [], .v (.c (.p (.sl (.ar 6 (.int .i64))) ret11v.1))), (18, [], .v (.c (.p (.int .i64) (ret11v.1.length : Int)))), (19, [], .v (.c (.p (.int .i64) v19)))], [(7, [], .vec 7 (.int .i64) [((ret11v.1.getD (v19).toNat (List.replicate 7 (0 : Int))).getD 0 (0 : Int)), ((ret11v.1.getD (v19).toNat (List.replicate 7 (0 : Int))).getD 1 (0 : Int)), ((ret11v.1.getD (v19).toNat (List.replicate 7 (0 : Int))).getD 2 (0 : Int)), ((ret11v.1.getD (v19).toNat (List.replicate 7 (0 : Int))).getD 3 (0 : Int)), ((ret11v.1.getD (v19).toNat (List.replicate 7 (0 : Int))).getD 4 (0 : Int)), ((ret11v.1.getD (v19).toNat (List.replicate 7 (0 : Int))).getD 5 (0 : Int)), ((ret11v.1.getD (v19).toNat (List.replicate 7 (0 : Int))).getD 6 (0 : Int))]), (8, [], .vec 7 (.int .i64) power)]⟩ : St)) (by kernel_rfl) ?_
            refine aw_exit ?_
            refine thenQ_x ?_
            refine thenQ_x ?_
            refine blockQ_hit ?_
            exact rest2 power h
      · have h := h.2 hb
        refine aw_conv [.prune [] []] (st' := (⟨36, [], []⟩ : St)) (by kernel_rfl) ?_
        refine aw_exit ?_
        refine thenQ_x ?_
        refine thenQ_x ?_
        refine blockQ_hit ?_
        exact rest1 () h

-- coppicer/kinds.Size
def VC38 (m : (Int × (Int × ((List (List Int)) × (Int × Int))))) (K : Int × Int → Prop) : Prop :=
  VC59 m (fun (ret8v : (List (List Int)) × Int) => K ((ret8v.1.length : Int), ret8v.2))

set_option maxHeartbeats 4000000 in
theorem link38 (m : (Int × (Int × ((List (List Int)) × (Int × Int))))) (K : Int × Int → Prop) (h : VC38 m K) : ACalls Try.prog 38 [toV1 (.pr (.int .i64) (.pr (.int .i64) (.pr (.sl (.sl (.int .i64))) (.pr (.int .i64) (.int .u32))))) m] (fun res => ∃ y, res = (fun y => [toV1 (.int .i64) y.1, toV1 (.int .i64) y.2]) y ∧ K y) := by
  refine acalls_of_aw [(.int .i64), (.int .i64)] [.t 2, .t 3] Try.func38 rfl rfl rfl ?_
  unfold VC38 at h
  refine aw_seq ?_
  refine aw_region ?_
  refine awl_runp 3 [1] [1] (ob := (True ∧ True ∧ True ∧ True)) (st' := (⟨14, [(1, [], .v (.c (.ptr 1 0)))], [(1, [], .box [.p (.int .i64) m.1, .p (.int .i64) m.2.1, .p (.sl (.sl (.int .i64))) m.2.2.1, .p (.int .i64) m.2.2.2.1, .p (.int .u32) m.2.2.2.2])]⟩ : St)) (by kernel_rfl) ⟨trivial, trivial, trivial, trivial⟩ ?_
  refine awl_nil ?_
  refine thenQ_n ?_
  refine aw_seq ?_
  refine aw_region ?_
  refine awl_runp 1 [7] [] (ob := (True ∧ True)) (st' := (⟨14, [(7, [], .v (.agg [.p (.int .i64) m.1, .p (.int .i64) m.2.1, .p (.sl (.sl (.int .i64))) m.2.2.1, .p (.int .i64) m.2.2.2.1, .p (.int .u32) m.2.2.2.2]))], []⟩ : St)) (by kernel_rfl) ⟨trivial, trivial⟩ ?_
  refine awl_callk (p := []) (l := [toV1 (.pr (.int .i64) (.pr (.int .i64) (.pr (.sl (.sl (.int .i64))) (.pr (.int .i64) (.int .u32))))) m]) (cl := []) false [.d (.pr (.int .i64) (.pr (.int .i64) (.pr (.sl (.sl (.int .i64))) (.pr (.int .i64) (.int .u32)))))] [8] [] (fun (ret8v : (List (List Int)) × Int) => K ((ret8v.1.length : Int), ret8v.2)) (fun ret8v => [toV1 (.sl (.ar 6 (.int .i64))) ret8v.1, toV1 (.int .i64) ret8v.2]) (fun ret8v => (⟨14, [(8, [], .tup [.c (.p (.sl (.ar 6 (.int .i64))) ret8v.1), .c (.p (.int .i64) ret8v.2)])], []⟩ : St)) (by kernel_rfl) rfl (by kernel_rfl) rfl (by kernel_rfl) Try.call59 (by kernel_rfl) (fun ret8v => by kernel_rfl) (fun e => by cases e) (fun hg => link59 m _ h) (fun hg => noF hg) (fun ret8v h => ?_)
  have h : K ((ret8v.1.length : Int), ret8v.2) := h
  refine awl_runp 5 [4, 5] [] (ob := (True ∧ True ∧ True ∧ True ∧ True ∧ True)) (st' := (⟨14, [(4, [], .v (.c (.p (.sl (.ar 6 (.int .i64))) ret8v.1))), (5, [], .v (.c (.p (.int .i64) ret8v.2)))], []⟩ : St)) (by kernel_rfl) ⟨trivial, trivial, trivial, trivial, trivial, trivial⟩ ?_
  refine awl_nil ?_
  refine thenQ_n ?_
  refine aw_seq ?_
  refine aw_region ?_
  refine awl_runp 5 [2, 3] [] (ob := (True ∧ True ∧ True ∧ True ∧ True ∧ True)) (st' := (⟨14, [(2, [], .v (.c (.p (.int .i64) (ret8v.1.length : Int)))), (3, [], .v (.c (.p (.int .i64) ret8v.2)))], []⟩ : St)) (by kernel_rfl) ⟨trivial, trivial, trivial, trivial, trivial, trivial⟩ ?_
  refine awl_nil ?_
  refine thenQ_n ?_
  refine aw_ret ?_
  exact retQ_r (σ := Int × Int) (R := (fun y => [toV1 (.int .i64) y.1, toV1 (.int .i64) y.2])) (ob := (True ∧ True ∧ True)) ((ret8v.1.length : Int), ret8v.2) (by kernel_rfl) ⟨trivial, trivial, trivial⟩ h

-- coppicer/coppicerref.MachineCheck
def VC26_k2 (m : (Int × (Int × ((List (List Int)) × (Int × Int))))) (K : Int → Prop) : Prop :=
  ((((decide (m.2.2.2.1 < (0 : Int))) || (decide (m.1 ≤ m.2.2.2.1))) = true → K (2 : Int)) ∧ (((decide (m.2.2.2.1 < (0 : Int))) || (decide (m.1 ≤ m.2.2.2.1))) = false → (0 ≤ (IntKind.wrap .u64 m.1) ∧ (((decide ((bShl .u32 (1 : Int) (IntKind.wrap .u64 m.1)) ≤ m.2.2.2.2)) = true → K (4 : Int)) ∧ ((decide ((bShl .u32 (1 : Int) (IntKind.wrap .u64 m.1)) ≤ m.2.2.2.2)) = false → K (0 : Int))))))

def VC26_k3 (v49 : Int) (X1 : Int → Prop) : Prop :=
  (InR (v49 + (1 : Int)) ∧ X1 (v49 + (1 : Int)))

def VC26_l2 (m : (Int × (Int × ((List (List Int)) × (Int × Int))))) (K : Int → Prop) (v49 : Int) (X1 : Int → Prop) (v55 : Int) (X2 : Int → Prop) : Prop :=
  (((decide (v55 < ((m.2.2.1.getD (v49).toNat ([] : (List Int))).length : Int))) = true → (inIdx v55 (m.2.2.1.getD (v49).toNat ([] : (List Int))).length ∧ ((((decide (((m.2.2.1.getD (v49).toNat ([] : (List Int))).getD (v55).toNat (0 : Int)) < (0 : Int))) || (decide (m.1 ≤ ((m.2.2.1.getD (v49).toNat ([] : (List Int))).getD (v55).toNat (0 : Int))))) = true → K (2 : Int)) ∧ (((decide (((m.2.2.1.getD (v49).toNat ([] : (List Int))).getD (v55).toNat (0 : Int)) < (0 : Int))) || (decide (m.1 ≤ ((m.2.2.1.getD (v49).toNat ([] : (List Int))).getD (v55).toNat (0 : Int))))) = false → (InR (v55 + (1 : Int)) ∧ X2 (v55 + (1 : Int))))))) ∧ ((decide (v55 < ((m.2.2.1.getD (v49).toNat ([] : (List Int))).length : Int))) = false → VC26_k3 v49 X1))

def VC26_l1 (m : (Int × (Int × ((List (List Int)) × (Int × Int))))) (K : Int → Prop) (v49 : Int) (X1 : Int → Prop) : Prop :=
  (((decide (v49 < (m.2.2.1.length : Int))) = true → (inIdx v49 m.2.2.1.length ∧ Loop (σ := Int) (fun s X => VC26_l2 m K v49 X1 s X) (0 : Int))) ∧ ((decide (v49 < (m.2.2.1.length : Int))) = false → VC26_k2 m K))

def VC26_k1 (m : (Int × (Int × ((List (List Int)) × (Int × Int))))) (K : Int → Prop) : Prop :=
  Loop (σ := Int) (fun s X => VC26_l1 m K s X) (0 : Int)

def VC26_l3 (m : (Int × (Int × ((List (List Int)) × (Int × Int))))) (K : Int → Prop) (v36 : Int) (X3 : Int → Prop) : Prop :=
  (((decide (v36 < (m.2.2.1.length : Int))) = true → (inIdx v36 m.2.2.1.length ∧ (((!decide (((m.2.2.1.getD (v36).toNat ([] : (List Int))).length : Int) = m.2.1)) = true → K (3 : Int)) ∧ ((!decide (((m.2.2.1.getD (v36).toNat ([] : (List Int))).length : Int) = m.2.1)) = false → (InR (v36 + (1 : Int)) ∧ X3 (v36 + (1 : Int))))))) ∧ ((decide (v36 < (m.2.2.1.length : Int))) = false → VC26_k1 m K))

def VC26 (m : (Int × (Int × ((List (List Int)) × (Int × Int))))) (K : Int → Prop) : Prop :=
  ((((((decide (m.1 < (1 : Int))) || (decide ((7 : Int) < m.1))) || (decide (m.2.1 < (1 : Int)))) || (decide ((3 : Int) < m.2.1))) = true → K (1 : Int)) ∧ (((((decide (m.1 < (1 : Int))) || (decide ((7 : Int) < m.1))) || (decide (m.2.1 < (1 : Int)))) || (decide ((3 : Int) < m.2.1))) = false → (((!decide ((m.2.2.1.length : Int) = m.1)) = true → K (3 : Int)) ∧ ((!decide ((m.2.2.1.length : Int) = m.1)) = false → Loop (σ := Int) (fun s X => VC26_l3 m K s X) (0 : Int)))))

set_option maxHeartbeats 4000000 in
theorem link26 (m : (Int × (Int × ((List (List Int)) × (Int × Int))))) (K : Int → Prop) (h : VC26 m K) : ACalls Try.prog 26 [toV1 (.pr (.int .i64) (.pr (.int .i64) (.pr (.sl (.sl (.int .i64))) (.pr (.int .i64) (.int .u32))))) m] (fun res => ∃ y, res = (fun y => [toV1 (.int .i64) y]) y ∧ K y) := by
  refine acalls_of_aw [(.int .i64)] [.t 2] Try.func26 rfl rfl rfl ?_
  unfold VC26 at h
  refine aw_seq ?_
  refine aw_region ?_
  refine awl_runp 2 [1] [1] (ob := (True ∧ True ∧ True)) (st' := (⟨86, [(1, [], .v (.c (.ptr 1 0)))], [(1, [], .box [.p (.int .i64) m.1, .p (.int .i64) m.2.1, .p (.sl (.sl (.int .i64))) m.2.2.1, .p (.int .i64) m.2.2.2.1, .p (.int .u32) m.2.2.2.2])]⟩ : St)) (by kernel_rfl) ⟨trivial, trivial, trivial⟩ ?_
  refine awl_nil ?_
  refine thenQ_n ?_
  refine aw_seq ?_
  refine aw_seq ?_
  refine aw_region ?_
  refine awl_runp 18 [1, 26] [1] (ob := (True ∧ True ∧ True ∧ True ∧ ((decide (m.1 < (1 : Int))) = false → True) ∧ ((decide (m.1 < (1 : Int))) = false → True) ∧ ((decide (m.1 < (1 : Int))) = false → True) ∧ True ∧ True ∧ (((decide (m.1 < (1 : Int))) || (decide ((7 : Int) < m.1))) = false → True) ∧ (((decide (m.1 < (1 : Int))) || (decide ((7 : Int) < m.1))) = false → True) ∧ (((decide (m.1 < (1 : Int))) || (decide ((7 : Int) < m.1))) = false → True) ∧ True ∧ True ∧ ((((decide (m.1 < (1 : Int))) || (decide ((7 : Int) < m.1))) || (decide (m.2.1 < (1 : Int)))) = false → True) ∧ ((((decide (m.1 < (1 : Int))) || (decide ((7 : Int) < m.1))) || (decide (m.2.1 < (1 : Int)))) = false → True) ∧ ((((decide (m.1 < (1 : Int))) || (decide ((7 : Int) < m.1))) || (decide (m.2.1 < (1 : Int)))) = false → True) ∧ True ∧ True)) (st' := (⟨86, [(1, [], .v (.c (.ptr 1 0))), (26, [], .v (.c (.p .bool ((((decide (m.1 < (1 : Int))) || (decide ((7 : Int) < m.1))) || (decide (m.2.1 < (1 : Int)))) || (decide ((3 : Int) < m.2.1))))))], [(1, [], .box [.p (.int .i64) m.1, .p (.int .i64) m.2.1, .p (.sl (.sl (.int .i64))) m.2.2.1, .p (.int .i64) m.2.2.2.1, .p (.int .u32) m.2.2.2.2])]⟩ : St)) (by kernel_rfl) ⟨trivial, trivial, trivial, trivial, (fun _ => trivial), (fun _ => trivial), (fun _ => trivial), trivial, trivial, (fun _ => trivial), (fun _ => trivial), (fun _ => trivial), trivial, trivial, (fun _ => trivial), (fun _ => trivial), (fun _ => trivial), trivial, trivial⟩ ?_
  refine awl_nil ?_
  refine thenQ_n ?_
  refine aw_cond (b := ((((decide (m.1 < (1 : Int))) || (decide ((7 : Int) < m.1))) || (decide (m.2.1 < (1 : Int)))) || (decide ((3 : Int) < m.2.1)))) (by kernel_rfl) (fun hb => ?_) (fun hb => ?_)
  · have h := h.1 hb
    refine aw_seq ?_
    refine aw_region ?_
    refine awl_runp 1 [2] [] (ob := (True ∧ True)) (st' := (⟨86, [(2, [], .v (.c (.p (.int .i64) (1 : Int))))], []⟩ : St)) (by kernel_rfl) ⟨trivial, trivial⟩ ?_
    refine awl_nil ?_
    refine thenQ_n ?_
    refine aw_ret ?_
    refine thenQ_r ?_
    exact retQ_r (σ := Int) (R := (fun y => [toV1 (.int .i64) y])) (ob := (True ∧ True)) (1 : Int) (by kernel_rfl) ⟨trivial, trivial⟩ h
  · have h := h.2 hb
    refine aw_skip ?_
    refine thenQ_n ?_
    refine aw_seq ?_
    refine aw_seq ?_
    refine aw_region ?_
    refine awl_runp 6 [1, 32] [1] (ob := (True ∧ True ∧ True ∧ True ∧ True ∧ True ∧ True)) (st' := (⟨86, [(1, [], .v (.c (.ptr 1 0))), (32, [], .v (.c (.p .bool (!decide ((m.2.2.1.length : Int) = m.1)))))], [(1, [], .box [.p (.int .i64) m.1, .p (.int .i64) m.2.1, .p (.sl (.sl (.int .i64))) m.2.2.1, .p (.int .i64) m.2.2.2.1, .p (.int .u32) m.2.2.2.2])]⟩ : St)) (by kernel_rfl) ⟨trivial, trivial, trivial, trivial, trivial, trivial, trivial⟩ ?_
    refine awl_nil ?_
    refine thenQ_n ?_
    refine aw_cond (b := (!decide ((m.2.2.1.length : Int) = m.1))) (by kernel_rfl) (fun hb => ?_) (fun hb => ?_)
    · have h := h.1 hb
      refine aw_seq ?_
      refine aw_region ?_
      refine awl_runp 1 [2] [] (ob := (True ∧ True)) (st' := (⟨86, [(2, [], .v (.c (.p (.int .i64) (3 : Int))))], []⟩ : St)) (by kernel_rfl) ⟨trivial, trivial⟩ ?_
      refine awl_nil ?_
      refine thenQ_n ?_
      refine aw_ret ?_
      refine thenQ_r ?_
      exact retQ_r (σ := Int) (R := (fun y => [toV1 (.int .i64) y])) (ob := (True ∧ True)) (3 : Int) (by kernel_rfl) ⟨trivial, trivial⟩ h
    · have h := h.2 hb
      refine aw_skip ?_
      refine thenQ_n ?_
      refine aw_seq ?_
      refine aw_seq ?_
      refine aw_region ?_
      refine awl_runp 4 [1, 34, 35, 36] [1] (ob := (True ∧ True ∧ True ∧ True ∧ True)) (st' := (⟨86, [(1, [], .v (.c (.ptr 1 0))), (34, [], .v (.c (.p (.sl (.sl (.int .i64))) m.2.2.1))), (35, [], .v (.c (.p (.int .i64) (m.2.2.1.length : Int)))), (36, [], .v (.c (.p (.int .i64) (0 : Int))))], [(1, [], .box [.p (.int .i64) m.1, .p (.int .i64) m.2.1, .p (.sl (.sl (.int .i64))) m.2.2.1, .p (.int .i64) m.2.2.2.1, .p (.int .u32) m.2.2.2.2])]⟩ : St)) (by kernel_rfl) ⟨trivial, trivial, trivial, trivial, trivial⟩ ?_
      refine awl_nil ?_
      refine thenQ_n ?_
      refine withJoin (σ := Unit) (fun s => (⟨86, [(1, [], .v (.c (.ptr 1 0)))], [(1, [], .box [.p (.int .i64) m.1, .p (.int .i64) m.2.1, .p (.sl (.sl (.int .i64))) m.2.2.1, .p (.int .i64) m.2.2.2.1, .p (.int .u32) m.2.2.2.2])]⟩ : St)) (fun s => VC26_k1 m K) (fun s h => ?_) (fun rest3 => ?_)
      · have h : VC26_k1 m K := h
        unfold VC26_k1 at h
        refine thenQ_n ?_
        refine aw_seq ?_
        refine aw_seq ?_
        refine aw_region ?_
        refine awl_runp 4 [1, 47, 48, 49] [1] (ob := (True ∧ True ∧ True ∧ True ∧ True)) (st' := (⟨86, [(1, [], .v (.c (.ptr 1 0))), (47, [], .v (.c (.p (.sl (.sl (.int .i64))) m.2.2.1))), (48, [], .v (.c (.p (.int .i64) (m.2.2.1.length : Int)))), (49, [], .v (.c (.p (.int .i64) (0 : Int))))], [(1, [], .box [.p (.int .i64) m.1, .p (.int .i64) m.2.1, .p (.sl (.sl (.int .i64))) m.2.2.1, .p (.int .i64) m.2.2.2.1, .p (.int .u32) m.2.2.2.2])]⟩ : St)) (by kernel_rfl) ⟨trivial, trivial, trivial, trivial, trivial⟩ ?_
        refine awl_nil ?_
        refine thenQ_n ?_
        refine withJoin (σ := Unit) (fun s => (⟨86, [(1, [], .v (.c (.ptr 1 0)))], [(1, [], .box [.p (.int .i64) m.1, .p (.int .i64) m.2.1, .p (.sl (.sl (.int .i64))) m.2.2.1, .p (.int .i64) m.2.2.2.1, .p (.int .u32) m.2.2.2.2])]⟩ : St)) (fun s => VC26_k2 m K) (fun s h => ?_) (fun rest1 => ?_)
        · have h : VC26_k2 m K := h
          unfold VC26_k2 at h
          refine thenQ_n ?_
          refine aw_seq ?_
          refine aw_seq ?_
          refine aw_region ?_
          refine awl_runp 10 [1, 78] [1] (ob := (True ∧ True ∧ True ∧ True ∧ ((decide (m.2.2.2.1 < (0 : Int))) = false → True) ∧ ((decide (m.2.2.2.1 < (0 : Int))) = false → True) ∧ ((decide (m.2.2.2.1 < (0 : Int))) = false → True) ∧ ((decide (m.2.2.2.1 < (0 : Int))) = false → True) ∧ ((decide (m.2.2.2.1 < (0 : Int))) = false → True) ∧ True ∧ True)) (st' := (⟨86, [(1, [], .v (.c (.ptr 1 0))), (78, [], .v (.c (.p .bool ((decide (m.2.2.2.1 < (0 : Int))) || (decide (m.1 ≤ m.2.2.2.1))))))], [(1, [], .box [.p (.int .i64) m.1, .p (.int .i64) m.2.1, .p (.sl (.sl (.int .i64))) m.2.2.1, .p (.int .i64) m.2.2.2.1, .p (.int .u32) m.2.2.2.2])]⟩ : St)) (by kernel_rfl) ⟨trivial, trivial, trivial, trivial, (fun _ => trivial), (fun _ => trivial), (fun _ => trivial), (fun _ => trivial), (fun _ => trivial), trivial, trivial⟩ ?_
          refine awl_nil ?_
          refine thenQ_n ?_
          refine aw_cond (b := ((decide (m.2.2.2.1 < (0 : Int))) || (decide (m.1 ≤ m.2.2.2.1)))) (by kernel_rfl) (fun hb => ?_) (fun hb => ?_)
          · have h := h.1 hb
            refine aw_seq ?_
            refine aw_region ?_
            refine awl_runp 1 [2] [] (ob := (True ∧ True)) (st' := (⟨86, [(2, [], .v (.c (.p (.int .i64) (2 : Int))))], []⟩ : St)) (by kernel_rfl) ⟨trivial, trivial⟩ ?_
            refine awl_nil ?_
            refine thenQ_n ?_
            refine aw_ret ?_
            refine thenQ_r ?_
            exact retQ_r (σ := Int) (R := (fun y => [toV1 (.int .i64) y])) (ob := (True ∧ True)) (2 : Int) (by kernel_rfl) ⟨trivial, trivial⟩ h
          · have h := h.2 hb
            refine aw_skip ?_
            refine thenQ_n ?_
            refine aw_seq ?_
            refine aw_seq ?_
            refine aw_region ?_
            obtain ⟨o1, h⟩ := h
            refine awl_runp 7 [85] [] (ob := (True ∧ True ∧ True ∧ True ∧ True ∧ 0 ≤ (IntKind.wrap .u64 m.1) ∧ True ∧ True)) (st' := (⟨86, [(85, [], .v (.c (.p .bool (decide ((bShl .u32 (1 : Int) (IntKind.wrap .u64 m.1)) ≤ m.2.2.2.2)))))], []⟩ : St)) (by kernel_rfl) ⟨trivial, trivial, trivial, trivial, trivial, o1, trivial, trivial⟩ ?_
            refine awl_nil ?_
            refine thenQ_n ?_
            refine aw_cond (b := (decide ((bShl .u32 (1 : Int) (IntKind.wrap .u64 m.1)) ≤ m.2.2.2.2))) (by kernel_rfl) (fun hb => ?_) (fun hb => ?_)
            · have h := h.1 hb
              refine aw_seq ?_
              refine aw_region ?_
              refine awl_runp 1 [2] [] (ob := (True ∧ True)) (st' := (⟨86, [(2, [], .v (.c (.p (.int .i64) (4 : Int))))], []⟩ : St)) (by kernel_rfl) ⟨trivial, trivial⟩ ?_
              refine awl_nil ?_
              refine thenQ_n ?_
              refine aw_ret ?_
              refine thenQ_r ?_
              exact retQ_r (σ := Int) (R := (fun y => [toV1 (.int .i64) y])) (ob := (True ∧ True)) (4 : Int) (by kernel_rfl) ⟨trivial, trivial⟩ h
            · have h := h.2 hb
              refine aw_skip ?_
              refine thenQ_n ?_
              refine aw_seq ?_
              refine aw_region ?_
              refine awl_runp 1 [2] [] (ob := (True ∧ True)) (st' := (⟨86, [(2, [], .v (.c (.p (.int .i64) (0 : Int))))], []⟩ : St)) (by kernel_rfl) ⟨trivial, trivial⟩ ?_
              refine awl_nil ?_
              refine thenQ_n ?_
              refine aw_ret ?_
              exact retQ_r (σ := Int) (R := (fun y => [toV1 (.int .i64) y])) (ob := (True ∧ True)) (0 : Int) (by kernel_rfl) ⟨trivial, trivial⟩ h
        · refine aw_block ?_
          refine aw_loop (σ := Int) (fun s => (⟨86, [(1, [], .v (.c (.ptr 1 0))), (47, [], .v (.c (.p (.sl (.sl (.int .i64))) m.2.2.1))), (48, [], .v (.c (.p (.int .i64) (m.2.2.1.length : Int)))), (49, [], .v (.c (.p (.int .i64) s)))], [(1, [], .box [.p (.int .i64) m.1, .p (.int .i64) m.2.1, .p (.sl (.sl (.int .i64))) m.2.2.1, .p (.int .i64) m.2.2.2.1, .p (.int .u32) m.2.2.2.2])]⟩ : St)) (fun s X => VC26_l1 m K s X) (s0 := (0 : Int)) (fun v49 X1 h => ?_) h
          have h : VC26_l1 m K v49 X1 := h
          unfold VC26_l1 at h
          refine aw_seq ?_
          refine aw_region ?_
          refine awl_runp 1 [1, 47, 48, 49, 50] [1] (ob := (True ∧ True)) (st' := (⟨86, [(1, [], .v (.c (.ptr 1 0))), (47, [], .v (.c (.p (.sl (.sl (.int .i64))) m.2.2.1))), (48, [], .v (.c (.p (.int .i64) (m.2.2.1.length : Int)))), (49, [], .v (.c (.p (.int .i64) v49))), (50, [], .v (.c (.p .bool (decide (v49 < (m.2.2.1.length : Int))))))], [(1, [], .box [.p (.int .i64) m.1, .p (.int .i64) m.2.1, .p (.sl (.sl (.int .i64))) m.2.2.1, .p (.int .i64) m.2.2.2.1, .p (.int .u32) m.2.2.2.2])]⟩ : St)) (by kernel_rfl) ⟨trivial, trivial⟩ ?_
          refine awl_nil ?_
          refine thenQ_n ?_
          refine aw_seq ?_
          refine aw_cond (b := (decide (v49 < (m.2.2.1.length : Int)))) (by kernel_rfl) (fun hb => ?_) (fun hb => ?_)
          · have h := h.1 hb
            refine aw_skip ?_
            refine thenQ_n ?_
            refine aw_seq ?_
            refine aw_block ?_
            refine aw_seq ?_
            refine aw_region ?_
            obtain ⟨o1, h⟩ := h
            refine awl_runp 3 [1, 6, 47, 48, 49] [1] (ob := (inIdx v49 m.2.2.1.length ∧ True ∧ True ∧ True)) (st' := (⟨86, [(1, [], .v (.c (.ptr 1 0))), (6, [], .v (.c (.p (.sl (.int .i64)) (m.2.2.1.getD (v49).toNat ([] : (List Int)))))), (47, [], .v (.c (.p (.sl (.sl (.int .i64))) m.2.2.1))), (48, [], .v (.c (.p (.int .i64) (m.2.2.1.length : Int)))), (49, [], .v (.c (.p (.int .i64) v49)))], [(1, [], .box [.p (.int .i64) m.1, .p (.int .i64) m.2.1, .p (.sl (.sl (.int .i64))) m.2.2.1, .p (.int .i64) m.2.2.2.1, .p (.int .u32) m.2.2.2.2])]⟩ : St)) (by kernel_rfl) ⟨o1, trivial, trivial, trivial⟩ ?_
            refine awl_nil ?_
            refine thenQ_n ?_
            refine aw_seq ?_
            refine aw_region ?_
            refine awl_runp 3 [1, 47, 48, 49, 53, 54, 55] [1] (ob := (True ∧ True ∧ True ∧ True)) (st' := (⟨86, [(1, [], .v (.c (.ptr 1 0))), (47, [], .v (.c (.p (.sl (.sl (.int .i64))) m.2.2.1))), (48, [], .v (.c (.p (.int .i64) (m.2.2.1.length : Int)))), (49, [], .v (.c (.p (.int .i64) v49))), (53, [], .v (.c (.p (.sl (.int .i64)) (m.2.2.1.getD (v49).toNat ([] : (List Int)))))), (54, [], .v (.c (.p (.int .i64) ((m.2.2.1.getD (v49).toNat ([] : (List Int))).length : Int)))), (55, [], .v (.c (.p (.int .i64) (0 : Int))))], [(1, [], .box [.p (.int .i64) m.1, .p (.int .i64) m.2.1, .p (.sl (.sl (.int .i64))) m.2.2.1, .p (.int .i64) m.2.2.2.1, .p (.int .u32) m.2.2.2.2])]⟩ : St)) (by kernel_rfl) ⟨trivial, trivial, trivial, trivial⟩ ?_
            refine awl_nil ?_
            refine thenQ_n ?_
            refine withJoin (σ := Unit) (fun s => (⟨86, [(1, [], .v (.c (.ptr 1 0))), (47, [], .v (.c (.p (.sl (.sl (.int .i64))) m.2.2.1))), (48, [], .v (.c (.p (.int .i64) (m.2.2.1.length : Int)))), (49, [], .v (.c (.p (.int .i64) v49)))], [(1, [], .box [.p (.int .i64) m.1, .p (.int .i64) m.2.1, .p (.sl (.sl (.int .i64))) m.2.2.1, .p (.int .i64) m.2.2.2.1, .p (.int .u32) m.2.2.2.2])]⟩ : St)) (fun s => VC26_k3 v49 X1) (fun s h => ?_) (fun rest2 => ?_)
            · have h : VC26_k3 v49 X1 := h
              unfold VC26_k3 at h
              refine blockQ_n ?_
              refine thenQ_n ?_
              refine aw_region ?_
              obtain ⟨o1, h⟩ := h
              refine awl_runp 2 [1, 47, 48, 49] [1] (ob := (InR (v49 + (1 : Int)) ∧ True ∧ True)) (st' := (⟨86, [(1, [], .v (.c (.ptr 1 0))), (47, [], .v (.c (.p (.sl (.sl (.int .i64))) m.2.2.1))), (48, [], .v (.c (.p (.int .i64) (m.2.2.1.length : Int)))), (49, [], .v (.c (.p (.int .i64) (v49 + (1 : Int)))))], [(1, [], .box [.p (.int .i64) m.1, .p (.int .i64) m.2.1, .p (.sl (.sl (.int .i64))) m.2.2.1, .p (.int .i64) m.2.2.2.1, .p (.int .u32) m.2.2.2.2])]⟩ : St)) (by kernel_rfl) ⟨o1, trivial, trivial⟩ ?_
              refine awl_nil ?_
              exact thenQ_n ⟨(v49 + (1 : Int)), rfl, h⟩
            · refine aw_block ?_
              refine aw_loop (σ := Int) (fun s => (⟨86, [(1, [], .v (.c (.ptr 1 0))), (47, [], .v (.c (.p (.sl (.sl (.int .i64))) m.2.2.1))), (48, [], .v (.c (.p (.int .i64) (m.2.2.1.length : Int)))), (49, [], .v (.c (.p (.int .i64) v49))), (53, [], .v (.c (.p (.sl (.int .i64)) (m.2.2.1.getD (v49).toNat ([] : (List Int)))))), (54, [], .v (.c (.p (.int .i64) ((m.2.2.1.getD (v49).toNat ([] : (List Int))).length : Int)))), (55, [], .v (.c (.p (.int .i64) s)))], [(1, [], .box [.p (.int .i64) m.1, .p (.int .i64) m.2.1, .p (.sl (.sl (.int .i64))) m.2.2.1, .p (.int .i64) m.2.2.2.1, .p (.int .u32) m.2.2.2.2])]⟩ : St)) (fun s X => VC26_l2 m K v49 X1 s X) (s0 := (0 : Int)) (fun v55 X2 h => ?_) h
              have h : VC26_l2 m K v49 X1 v55 X2 := h
              unfold VC26_l2 at h
              refine aw_seq ?_
              refine aw_region ?_
              refine awl_runp 1 [1, 47, 48, 49, 53, 54, 55, 56] [1] (ob := (True ∧ True)) (st' := (⟨86, [(1, [], .v (.c (.ptr 1 0))), (47, [], .v (.c (.p (.sl (.sl (.int .i64))) m.2.2.1))), (48, [], .v (.c (.p (.int .i64) (m.2.2.1.length : Int)))), (49, [], .v (.c (.p (.int .i64) v49))), (53, [], .v (.c (.p (.sl (.int .i64)) (m.2.2.1.getD (v49).toNat ([] : (List Int)))))), (54, [], .v (.c (.p (.int .i64) ((m.2.2.1.getD (v49).toNat ([] : (List Int))).length : Int)))), (55, [], .v (.c (.p (.int .i64) v55))), (56, [], .v (.c (.p .bool (decide (v55 < ((m.2.2.1.getD (v49).toNat ([] : (List Int))).length : Int))))))], [(1, [], .box [.p (.int .i64) m.1, .p (.int .i64) m.2.1, .p (.sl (.sl (.int .i64))) m.2.2.1, .p (.int .i64) m.2.2.2.1, .p (.int .u32) m.2.2.2.2])]⟩ : St)) (by kernel_rfl) ⟨trivial, trivial⟩ ?_
              refine awl_nil ?_
              refine thenQ_n ?_
              refine aw_seq ?_
              refine aw_cond (b := (decide (v55 < ((m.2.2.1.getD (v49).toNat ([] : (List Int))).length : Int)))) (by kernel_rfl) (fun hb => ?_) (fun hb => ?_)
              · have h := h.1 hb
                refine aw_skip ?_
                refine thenQ_n ?_
                refine aw_seq ?_
                refine aw_block ?_
                refine aw_seq ?_
                refine aw_region ?_
                obtain ⟨o1, h⟩ := h
                refine awl_runp 3 [1, 8, 47, 48, 49, 53, 54, 55] [1] (ob := (inIdx v55 (m.2.2.1.getD (v49).toNat ([] : (List Int))).length ∧ True ∧ True ∧ True)) (st' := (⟨86, [(1, [], .v (.c (.ptr 1 0))), (8, [], .v (.c (.p (.int .i64) ((m.2.2.1.getD (v49).toNat ([] : (List Int))).getD (v55).toNat (0 : Int))))), (47, [], .v (.c (.p (.sl (.sl (.int .i64))) m.2.2.1))), (48, [], .v (.c (.p (.int .i64) (m.2.2.1.length : Int)))), (49, [], .v (.c (.p (.int .i64) v49))), (53, [], .v (.c (.p (.sl (.int .i64)) (m.2.2.1.getD (v49).toNat ([] : (List Int)))))), (54, [], .v (.c (.p (.int .i64) ((m.2.2.1.getD (v49).toNat ([] : (List Int))).length : Int)))), (55, [], .v (.c (.p (.int .i64) v55)))], [(1, [], .box [.p (.int .i64) m.1, .p (.int .i64) m.2.1, .p (.sl (.sl (.int .i64))) m.2.2.1, .p (.int .i64) m.2.2.2.1, .p (.int .u32) m.2.2.2.2])]⟩ : St)) (by kernel_rfl) ⟨o1, trivial, trivial, trivial⟩ ?_
                refine awl_nil ?_
                refine thenQ_n ?_
                refine aw_seq ?_
                refine aw_region ?_
                refine awl_runp 8 [1, 47, 48, 49, 53, 54, 55, 66] [1] (ob := (True ∧ True ∧ True ∧ ((decide (((m.2.2.1.getD (v49).toNat ([] : (List Int))).getD (v55).toNat (0 : Int)) < (0 : Int))) = false → True) ∧ ((decide (((m.2.2.1.getD (v49).toNat ([] : (List Int))).getD (v55).toNat (0 : Int)) < (0 : Int))) = false → True) ∧ ((decide (((m.2.2.1.getD (v49).toNat ([] : (List Int))).getD (v55).toNat (0 : Int)) < (0 : Int))) = false → True) ∧ ((decide (((m.2.2.1.getD (v49).toNat ([] : (List Int))).getD (v55).toNat (0 : Int)) < (0 : Int))) = false → True) ∧ True ∧ True)) (st' := (⟨86, [(1, [], .v (.c (.ptr 1 0))), (47, [], .v (.c (.p (.sl (.sl (.int .i64))) m.2.2.1))), (48, [], .v (.c (.p (.int .i64) (m.2.2.1.length : Int)))), (49, [], .v (.c (.p (.int .i64) v49))), (53, [], .v (.c (.p (.sl (.int .i64)) (m.2.2.1.getD (v49).toNat ([] : (List Int)))))), (54, [], .v (.c (.p (.int .i64) ((m.2.2.1.getD (v49).toNat ([] : (List Int))).length : Int)))), (55, [], .v (.c (.p (.int .i64) v55))), (66, [], .v (.c (.p .bool ((decide (((m.2.2.1.getD (v49).toNat ([] : (List Int))).getD (v55).toNat (0 : Int)) < (0 : Int))) || (decide (m.1 ≤ ((m.2.2.1.getD (v49).toNat ([] : (List Int))).getD (v55).toNat (0 : Int))))))))], [(1, [], .box [.p (.int .i64) m.1, .p (.int .i64) m.2.1, .p (.sl (.sl (.int .i64))) m.2.2.1, .p (.int .i64) m.2.2.2.1, .p (.int .u32) m.2.2.2.2])]⟩ : St)) (by kernel_rfl) ⟨trivial, trivial, trivial, (fun _ => trivial), (fun _ => trivial), (fun _ => trivial), (fun _ => trivial), trivial, trivial⟩ ?_
                refine awl_nil ?_
                refine thenQ_n ?_
                refine aw_cond (b := ((decide (((m.2.2.1.getD (v49).toNat ([] : (List Int))).getD (v55).toNat (0 : Int)) < (0 : Int))) || (decide (m.1 ≤ ((m.2.2.1.getD (v49).toNat ([] : (List Int))).getD (v55).toNat (0 : Int)))))) (by kernel_rfl) (fun hb => ?_) (fun hb => ?_)
                · have h := h.1 hb
                  refine aw_seq ?_
                  refine aw_region ?_
                  refine awl_runp 1 [2] [] (ob := (True ∧ True)) (st' := (⟨86, [(2, [], .v (.c (.p (.int .i64) (2 : Int))))], []⟩ : St)) (by kernel_rfl) ⟨trivial, trivial⟩ ?_
                  refine awl_nil ?_
                  refine thenQ_n ?_
                  refine aw_ret ?_
                  refine blockQ_r ?_
                  refine thenQ_r ?_
                  refine thenQ_r ?_
                  refine blockQ_r ?_
                  refine blockQ_r ?_
                  refine thenQ_r ?_
                  refine thenQ_r ?_
                  refine blockQ_r ?_
                  refine thenQ_r ?_
                  exact retQ_r (σ := Int) (R := (fun y => [toV1 (.int .i64) y])) (ob := (True ∧ True)) (2 : Int) (by kernel_rfl) ⟨trivial, trivial⟩ h
                · have h := h.2 hb
                  refine aw_skip ?_
                  refine blockQ_n ?_
                  refine thenQ_n ?_
                  refine aw_region ?_
                  obtain ⟨o1, h⟩ := h
                  refine awl_runp 2 [1, 47, 48, 49, 53, 54, 55] [1] (ob := (InR (v55 + (1 : Int)) ∧ True ∧ True)) (st' := (⟨86, [(1, [], .v (.c (.ptr 1 0))), (47, [], .v (.c (.p (.sl (.sl (.int .i64))) m.2.2.1))), (48, [], .v (.c (.p (.int .i64) (m.2.2.1.length : Int)))), (49, [], .v (.c (.p (.int .i64) v49))), (53, [], .v (.c (.p (.sl (.int .i64)) (m.2.2.1.getD (v49).toNat ([] : (List Int)))))), (54, [], .v (.c (.p (.int .i64) ((m.2.2.1.getD (v49).toNat ([] : (List Int))).length : Int)))), (55, [], .v (.c (.p (.int .i64) (v55 + (1 : Int)))))], [(1, [], .box [.p (.int .i64) m.1, .p (.int .i64) m.2.1, .p (.sl (.sl (.int .i64))) m.2.2.1, .p (.int .i64) m.2.2.2.1, .p (.int .u32) m.2.2.2.2])]⟩ : St)) (by kernel_rfl) ⟨o1, trivial, trivial⟩ ?_
                  refine awl_nil ?_
                  exact thenQ_n ⟨(v55 + (1 : Int)), rfl, h⟩
              · have h := h.2 hb
                refine aw_conv [.prune [1, 47, 48, 49] [1]] (st' := (⟨86, [(1, [], .v (.c (.ptr 1 0))), (47, [], .v (.c (.p (.sl (.sl (.int .i64))) m.2.2.1))), (48, [], .v (.c (.p (.int .i64) (m.2.2.1.length : Int)))), (49, [], .v (.c (.p (.int .i64) v49)))], [(1, [], .box [.p (.int .i64) m.1, .p (.int .i64) m.2.1, .p (.sl (.sl (.int .i64))) m.2.2.1, .p (.int .i64) m.2.2.2.1, .p (.int .u32) m.2.2.2.2])]⟩ : St)) (by kernel_rfl) ?_
                refine aw_exit ?_
                refine thenQ_x ?_
                refine thenQ_x ?_
                refine blockQ_hit ?_
                exact rest2 () h
          · have h := h.2 hb
            refine aw_conv [.prune [1] [1]] (st' := (⟨86, [(1, [], .v (.c (.ptr 1 0)))], [(1, [], .box [.p (.int .i64) m.1, .p (.int .i64) m.2.1, .p (.sl (.sl (.int .i64))) m.2.2.1, .p (.int .i64) m.2.2.2.1, .p (.int .u32) m.2.2.2.2])]⟩ : St)) (by kernel_rfl) ?_
            refine aw_exit ?_
            refine thenQ_x ?_
            refine thenQ_x ?_
            refine blockQ_hit ?_
            exact rest1 () h
      · refine aw_block ?_
        refine aw_loop (σ := Int) (fun s => (⟨86, [(1, [], .v (.c (.ptr 1 0))), (34, [], .v (.c (.p (.sl (.sl (.int .i64))) m.2.2.1))), (35, [], .v (.c (.p (.int .i64) (m.2.2.1.length : Int)))), (36, [], .v (.c (.p (.int .i64) s)))], [(1, [], .box [.p (.int .i64) m.1, .p (.int .i64) m.2.1, .p (.sl (.sl (.int .i64))) m.2.2.1, .p (.int .i64) m.2.2.2.1, .p (.int .u32) m.2.2.2.2])]⟩ : St)) (fun s X => VC26_l3 m K s X) (s0 := (0 : Int)) (fun v36 X3 h => ?_) h
        have h : VC26_l3 m K v36 X3 := h
        unfold VC26_l3 at h
        refine aw_seq ?_
        refine aw_region ?_
        refine awl_runp 1 [1, 34, 35, 36, 37] [1] (ob := (True ∧ True)) (st' := (⟨86, [(1, [], .v (.c (.ptr 1 0))), (34, [], .v (.c (.p (.sl (.sl (.int .i64))) m.2.2.1))), (35, [], .v (.c (.p (.int .i64) (m.2.2.1.length : Int)))), (36, [], .v (.c (.p (.int .i64) v36))), (37, [], .v (.c (.p .bool (decide (v36 < (m.2.2.1.length : Int))))))], [(1, [], .box [.p (.int .i64) m.1, .p (.int .i64) m.2.1, .p (.sl (.sl (.int .i64))) m.2.2.1, .p (.int .i64) m.2.2.2.1, .p (.int .u32) m.2.2.2.2])]⟩ : St)) (by kernel_rfl) ⟨trivial, trivial⟩ ?_
        refine awl_nil ?_
        refine thenQ_n ?_
        refine aw_seq ?_
        refine aw_cond (b := (decide (v36 < (m.2.2.1.length : Int)))) (by kernel_rfl) (fun hb => ?_) (fun hb => ?_)
        · have h := h.1 hb
          refine aw_skip ?_
          refine thenQ_n ?_
          refine aw_seq ?_
          refine aw_block ?_
          refine aw_seq ?_
          refine aw_region ?_
          obtain ⟨o1, h⟩ := h
          refine awl_runp 3 [1, 4, 34, 35, 36] [1] (ob := (inIdx v36 m.2.2.1.length ∧ True ∧ True ∧ True)) (st' := (⟨86, [(1, [], .v (.c (.ptr 1 0))), (4, [], .v (.c (.p (.sl (.int .i64)) (m.2.2.1.getD (v36).toNat ([] : (List Int)))))), (34, [], .v (.c (.p (.sl (.sl (.int .i64))) m.2.2.1))), (35, [], .v (.c (.p (.int .i64) (m.2.2.1.length : Int)))), (36, [], .v (.c (.p (.int .i64) v36)))], [(1, [], .box [.p (.int .i64) m.1, .p (.int .i64) m.2.1, .p (.sl (.sl (.int .i64))) m.2.2.1, .p (.int .i64) m.2.2.2.1, .p (.int .u32) m.2.2.2.2])]⟩ : St)) (by kernel_rfl) ⟨o1, trivial, trivial, trivial⟩ ?_
          refine awl_nil ?_
          refine thenQ_n ?_
          refine aw_seq ?_
          refine aw_region ?_
          refine awl_runp 5 [1, 34, 35, 36, 44] [1] (ob := (True ∧ True ∧ True ∧ True ∧ True ∧ True)) (st' := (⟨86, [(1, [], .v (.c (.ptr 1 0))), (34, [], .v (.c (.p (.sl (.sl (.int .i64))) m.2.2.1))), (35, [], .v (.c (.p (.int .i64) (m.2.2.1.length : Int)))), (36, [], .v (.c (.p (.int .i64) v36))), (44, [], .v (.c (.p .bool (!decide (((m.2.2.1.getD (v36).toNat ([] : (List Int))).length : Int) = m.2.1)))))], [(1, [], .box [.p (.int .i64) m.1, .p (.int .i64) m.2.1, .p (.sl (.sl (.int .i64))) m.2.2.1, .p (.int .i64) m.2.2.2.1, .p (.int .u32) m.2.2.2.2])]⟩ : St)) (by kernel_rfl) ⟨trivial, trivial, trivial, trivial, trivial, trivial⟩ ?_
          refine awl_nil ?_
          refine thenQ_n ?_
          refine aw_cond (b := (!decide (((m.2.2.1.getD (v36).toNat ([] : (List Int))).length : Int) = m.2.1))) (by kernel_rfl) (fun hb => ?_) (fun hb => ?_)
          · have h := h.1 hb
            refine aw_seq ?_
            refine aw_region ?_
            refine awl_runp 1 [2] [] (ob := (True ∧ True)) (st' := (⟨86, [(2, [], .v (.c (.p (.int .i64) (3 : Int))))], []⟩ : St)) (by kernel_rfl) ⟨trivial, trivial⟩ ?_
            refine awl_nil ?_
            refine thenQ_n ?_
            refine aw_ret ?_
            refine blockQ_r ?_
            refine thenQ_r ?_
            refine thenQ_r ?_
            refine blockQ_r ?_
            refine thenQ_r ?_
            exact retQ_r (σ := Int) (R := (fun y => [toV1 (.int .i64) y])) (ob := (True ∧ True)) (3 : Int) (by kernel_rfl) ⟨trivial, trivial⟩ h
          · have h := h.2 hb
            refine aw_skip ?_
            refine blockQ_n ?_
            refine thenQ_n ?_
            refine aw_region ?_
            obtain ⟨o1, h⟩ := h
            refine awl_runp 2 [1, 34, 35, 36] [1] (ob := (InR (v36 + (1 : Int)) ∧ True ∧ True)) (st' := (⟨86, [(1, [], .v (.c (.ptr 1 0))), (34, [], .v (.c (.p (.sl (.sl (.int .i64))) m.2.2.1))), (35, [], .v (.c (.p (.int .i64) (m.2.2.1.length : Int)))), (36, [], .v (.c (.p (.int .i64) (v36 + (1 : Int)))))], [(1, [], .box [.p (.int .i64) m.1, .p (.int .i64) m.2.1, .p (.sl (.sl (.int .i64))) m.2.2.1, .p (.int .i64) m.2.2.2.1, .p (.int .u32) m.2.2.2.2])]⟩ : St)) (by kernel_rfl) ⟨o1, trivial, trivial⟩ ?_
            refine awl_nil ?_
            exact thenQ_n ⟨(v36 + (1 : Int)), rfl, h⟩
        · have h := h.2 hb
          refine aw_conv [.prune [1] [1]] (st' := (⟨86, [(1, [], .v (.c (.ptr 1 0)))], [(1, [], .box [.p (.int .i64) m.1, .p (.int .i64) m.2.1, .p (.sl (.sl (.int .i64))) m.2.2.1, .p (.int .i64) m.2.2.2.1, .p (.int .u32) m.2.2.2.2])]⟩ : St)) (by kernel_rfl) ?_
          refine aw_exit ?_
          refine thenQ_x ?_
          refine thenQ_x ?_
          refine blockQ_hit ?_
          exact rest3 () h

-- slices.Clone[[]int,int]
def VC43 (sv : (List Int)) (K : (List Int) → Prop) : Prop :=
  (∀ nil4 : Bool, (nil4 = true → sv = []) → ((nil4 = true → K ([] : List Int)) ∧ (nil4 = false → (roomN (([] : List Int).length + sv.length) ∧ K (([] : List Int) ++ sv)))))

set_option maxHeartbeats 4000000 in
theorem link43 (sv : (List Int)) (K : (List Int) → Prop) (h : VC43 sv K) : ACallsO Try.prog 43 [toV1 (.sl (.int .i64)) sv] 3 (.int .i64) K := by
  refine acallsO_of_aw 2 Try.func43 rfl rfl rfl ?_
  unfold VC43 at h
  refine aw_seq ?_
  refine aw_region ?_
  refine awl_runp 1 [0] [] (ob := (True ∧ True)) (st' := (⟨8, [(0, [], .v (.c (.p (.sl (.int .i64)) sv)))], []⟩ : St)) (by kernel_rfl) ⟨trivial, trivial⟩ ?_
  refine awl_nil ?_
  refine thenQ_n ?_
  refine aw_seq ?_
  refine aw_seq ?_
  refine aw_region ?_
  refine awl_runp 1 [0, 3] [] (ob := (True ∧ True)) (st' := (⟨8, [(0, [], .v (.c (.p (.sl (.int .i64)) sv))), (3, [], .v (.c (.p (.sl (.int .i64)) sv)))], []⟩ : St)) (by kernel_rfl) ⟨trivial, trivial⟩ ?_
  refine awl_nil_eql [0, 4] [] (fun nil4 => (⟨8, [(0, [], .v (.c (.p (.sl (.int .i64)) sv))), (4, [], .v (.c (.p .bool nil4)))], []⟩ : St)) rfl rfl (by kernel_rfl) rfl (e := 3) (by kernel_rfl) (l := sv) (u := (.int .i64)) (by kernel_rfl) (fun nil4 => by kernel_rfl) (fun nil4 hnil => ?_)
  have h := h nil4 hnil
  refine awl_nil ?_
  refine thenQ_n ?_
  refine aw_cond (b := nil4) (by kernel_rfl) (fun hb => ?_) (fun hb => ?_)
  · have h := h.1 hb
    refine aw_seq ?_
    refine aw_region ?_
    refine awl_runp 1 [2] [] (ob := (True ∧ True)) (st' := (⟨8, [(2, [], .v (.c (.nils)))], []⟩ : St)) (by kernel_rfl) ⟨trivial, trivial⟩ ?_
    refine awl_nil ?_
    refine thenQ_n ?_
    refine aw_conv [.nilOwn 2 5002 3 (.int .i64)] (st' := (⟨8, [(2, [], .v (.c (.own 5002)))], [(5002, [], .arr 3 (.int .i64) ([] : List Int))]⟩ : St)) (by kernel_rfl) ?_
    refine aw_ret ?_
    refine thenQ_r ?_
    exact ⟨5002, _, by kernel_rfl, by kernel_rfl, h⟩
  · have h := h.2 hb
    refine aw_skip ?_
    refine thenQ_n ?_
    refine aw_seq ?_
    refine aw_region ?_
    obtain ⟨o1, h⟩ := h
    refine awl_runp 4 [2] [7] (ob := (True ∧ True ∧ roomN (([] : List Int).length + sv.length) ∧ True ∧ True)) (st' := (⟨8, [(2, [], .v (.c (.own 7)))], [(7, [], .arr 3 (.int .i64) (([] : List Int) ++ sv))]⟩ : St)) (by kernel_rfl) ⟨trivial, trivial, o1, trivial, trivial⟩ ?_
    refine awl_nil ?_
    refine thenQ_n ?_
    refine aw_ret ?_
    exact ⟨7, _, by kernel_rfl, by kernel_rfl, h⟩

-- coppicer/machine.Not
def VC18_k1 (m : (Int × (Int × ((List (List Int)) × (Int × Int))))) (K : (Int × (Int × ((List (List Int)) × (Int × Int)))) × Int → Prop) (l6102 : (List (List Int))) : Prop :=
  (0 ≤ m.1 ∧ K ((m.1, (m.2.1, (l6102, (m.2.2.2.1, (bAndNot .u32 (IntKind.wrap .u32 ((bShl .u32 (1 : Int) m.1) - (1 : Int))) m.2.2.2.2))))), (0 : Int)))

def VC18_k2 (v19 : Int) (X1 : Int × (List (List Int)) → Prop) (l28 : (List (List Int))) : Prop :=
  (InR (v19 + (1 : Int)) ∧ X1 ((v19 + (1 : Int)), l28))

def VC18_l1 (m : (Int × (Int × ((List (List Int)) × (Int × Int))))) (K : (Int × (Int × ((List (List Int)) × (Int × Int)))) × Int → Prop) (v19 : Int) (l6102 : (List (List Int))) (X1 : Int × (List (List Int)) → Prop) : Prop :=
  (((decide (v19 < (m.2.2.1.length : Int))) = true → (inIdx v19 m.2.2.1.length ∧ VC43 (m.2.2.1.getD (v19).toNat ([] : (List Int))) (fun (ret26v : (List Int)) => (roomN (l6102.length + [ret26v].length) ∧ VC18_k2 v19 X1 (l6102 ++ [ret26v]))))) ∧ ((decide (v19 < (m.2.2.1.length : Int))) = false → VC18_k1 m K l6102))

def VC18 (m : (Int × (Int × ((List (List Int)) × (Int × Int))))) (K : (Int × (Int × ((List (List Int)) × (Int × Int)))) × Int → Prop) : Prop :=
  VC40 m (fun (ret9v : Int) => (((!decide (ret9v = (0 : Int))) = true → K (((0 : Int), ((0 : Int), (([] : (List (List Int))), ((0 : Int), (0 : Int))))), ret9v)) ∧ ((!decide (ret9v = (0 : Int))) = false → Loop (σ := Int × (List (List Int))) (fun s X => VC18_l1 m K s.1 s.2 X) ((0 : Int), ([] : List (List Int))))))

set_option maxHeartbeats 4000000 in
theorem link18 (m : (Int × (Int × ((List (List Int)) × (Int × Int))))) (K : (Int × (Int × ((List (List Int)) × (Int × Int)))) × Int → Prop) (h : VC18 m K) : ACalls Try.prog 18 [toV1 (.pr (.int .i64) (.pr (.int .i64) (.pr (.sl (.sl (.int .i64))) (.pr (.int .i64) (.int .u32))))) m] (fun res => ∃ y, res = (fun y => [toV1 (.pr (.int .i64) (.pr (.int .i64) (.pr (.sl (.sl (.int .i64))) (.pr (.int .i64) (.int .u32))))) y.1, toV1 (.int .i64) y.2]) y ∧ K y) := by
  refine acalls_of_aw [(.pr (.int .i64) (.pr (.int .i64) (.pr (.sl (.sl (.int .i64))) (.pr (.int .i64) (.int .u32))))), (.int .i64)] [.c 2 25, .t 3] Try.func18 rfl rfl rfl ?_
  unfold VC18 at h
  refine aw_seq ?_
  refine aw_region ?_
  refine awl_runp 3 [1, 2] [1, 2] (ob := (True ∧ True ∧ True ∧ True)) (st' := (⟨40, [(1, [], .v (.c (.ptr 1 0))), (2, [], .v (.c (.ptr 2 0)))], [(1, [], .box [.p (.int .i64) m.1, .p (.int .i64) m.2.1, .p (.sl (.sl (.int .i64))) m.2.2.1, .p (.int .i64) m.2.2.2.1, .p (.int .u32) m.2.2.2.2]), (2, [], .box [.p (.int .i64) (0 : Int), .p (.int .i64) (0 : Int), .nils, .p (.int .i64) (0 : Int), .p (.int .u32) (0 : Int)])]⟩ : St)) (by kernel_rfl) ⟨trivial, trivial, trivial, trivial⟩ ?_
  refine awl_nil ?_
  refine thenQ_n ?_
  refine aw_seq ?_
  refine aw_seq ?_
  refine aw_region ?_
  refine awl_runp 1 [1, 2, 8] [1, 2] (ob := (True ∧ True)) (st' := (⟨40, [(1, [], .v (.c (.ptr 1 0))), (2, [], .v (.c (.ptr 2 0))), (8, [], .v (.agg [.p (.int .i64) m.1, .p (.int .i64) m.2.1, .p (.sl (.sl (.int .i64))) m.2.2.1, .p (.int .i64) m.2.2.2.1, .p (.int .u32) m.2.2.2.2]))], [(1, [], .box [.p (.int .i64) m.1, .p (.int .i64) m.2.1, .p (.sl (.sl (.int .i64))) m.2.2.1, .p (.int .i64) m.2.2.2.1, .p (.int .u32) m.2.2.2.2]), (2, [], .box [.p (.int .i64) (0 : Int), .p (.int .i64) (0 : Int), .nils, .p (.int .i64) (0 : Int), .p (.int .u32) (0 : Int)])]⟩ : St)) (by kernel_rfl) ⟨trivial, trivial⟩ ?_
  refine awl_callk (p := []) (l := [toV1 (.pr (.int .i64) (.pr (.int .i64) (.pr (.sl (.sl (.int .i64))) (.pr (.int .i64) (.int .u32))))) m]) (cl := []) false [.d (.pr (.int .i64) (.pr (.int .i64) (.pr (.sl (.sl (.int .i64))) (.pr (.int .i64) (.int .u32)))))] [1, 2, 9] [1, 2] (fun (ret9v : Int) => (((!decide (ret9v = (0 : Int))) = true → K (((0 : Int), ((0 : Int), (([] : (List (List Int))), ((0 : Int), (0 : Int))))), ret9v)) ∧ ((!decide (ret9v = (0 : Int))) = false → Loop (σ := Int × (List (List Int))) (fun s X => VC18_l1 m K s.1 s.2 X) ((0 : Int), ([] : List (List Int)))))) (fun ret9v => [toV1 (.int .i64) ret9v]) (fun ret9v => (⟨40, [(1, [], .v (.c (.ptr 1 0))), (2, [], .v (.c (.ptr 2 0))), (9, [], .v (.c (.p (.int .i64) ret9v)))], [(1, [], .box [.p (.int .i64) m.1, .p (.int .i64) m.2.1, .p (.sl (.sl (.int .i64))) m.2.2.1, .p (.int .i64) m.2.2.2.1, .p (.int .u32) m.2.2.2.2]), (2, [], .box [.p (.int .i64) (0 : Int), .p (.int .i64) (0 : Int), .nils, .p (.int .i64) (0 : Int), .p (.int .u32) (0 : Int)])]⟩ : St)) (by kernel_rfl) rfl (by kernel_rfl) rfl (by kernel_rfl) Try.call40 (by kernel_rfl) (fun ret9v => by kernel_rfl) (fun e => by cases e) (fun hg => link40 m _ h) (fun hg => noF hg) (fun ret9v h => ?_)
  have h : (((!decide (ret9v = (0 : Int))) = true → K (((0 : Int), ((0 : Int), (([] : (List (List Int))), ((0 : Int), (0 : Int))))), ret9v)) ∧ ((!decide (ret9v = (0 : Int))) = false → Loop (σ := Int × (List (List Int))) (fun s X => VC18_l1 m K s.1 s.2 X) ((0 : Int), ([] : List (List Int))))) := h
  refine awl_runp 1 [1, 2, 4] [1, 2] (ob := (True ∧ True)) (st' := (⟨40, [(1, [], .v (.c (.ptr 1 0))), (2, [], .v (.c (.ptr 2 0))), (4, [], .v (.c (.p (.int .i64) ret9v)))], [(1, [], .box [.p (.int .i64) m.1, .p (.int .i64) m.2.1, .p (.sl (.sl (.int .i64))) m.2.2.1, .p (.int .i64) m.2.2.2.1, .p (.int .u32) m.2.2.2.2]), (2, [], .box [.p (.int .i64) (0 : Int), .p (.int .i64) (0 : Int), .nils, .p (.int .i64) (0 : Int), .p (.int .u32) (0 : Int)])]⟩ : St)) (by kernel_rfl) ⟨trivial, trivial⟩ ?_
  refine awl_nil ?_
  refine thenQ_n ?_
  refine aw_seq ?_
  refine aw_region ?_
  refine awl_runp 2 [1, 2, 4, 11] [1, 2] (ob := (True ∧ True ∧ True)) (st' := (⟨40, [(1, [], .v (.c (.ptr 1 0))), (2, [], .v (.c (.ptr 2 0))), (4, [], .v (.c (.p (.int .i64) ret9v))), (11, [], .v (.c (.p .bool (!decide (ret9v = (0 : Int))))))], [(1, [], .box [.p (.int .i64) m.1, .p (.int .i64) m.2.1, .p (.sl (.sl (.int .i64))) m.2.2.1, .p (.int .i64) m.2.2.2.1, .p (.int .u32) m.2.2.2.2]), (2, [], .box [.p (.int .i64) (0 : Int), .p (.int .i64) (0 : Int), .nils, .p (.int .i64) (0 : Int), .p (.int .u32) (0 : Int)])]⟩ : St)) (by kernel_rfl) ⟨trivial, trivial, trivial⟩ ?_
  refine awl_nil ?_
  refine thenQ_n ?_
  refine aw_cond (b := (!decide (ret9v = (0 : Int)))) (by kernel_rfl) (fun hb => ?_) (fun hb => ?_)
  · have h := h.1 hb
    refine aw_seq ?_
    refine aw_region ?_
    refine awl_runp 4 [2, 3] [2] (ob := (True ∧ True ∧ True ∧ True ∧ True)) (st' := (⟨40, [(2, [], .v (.c (.ptr 2 0))), (3, [], .v (.c (.p (.int .i64) ret9v)))], [(2, [], .box [.p (.int .i64) (0 : Int), .p (.int .i64) (0 : Int), .nils, .p (.int .i64) (0 : Int), .p (.int .u32) (0 : Int)])]⟩ : St)) (by kernel_rfl) ⟨trivial, trivial, trivial, trivial, trivial⟩ ?_
    refine awl_nil ?_
    refine thenQ_n ?_
    refine aw_ret ?_
    refine thenQ_r ?_
    exact retQ_r (σ := (Int × (Int × ((List (List Int)) × (Int × Int)))) × Int) (R := (fun y => [toV1 (.pr (.int .i64) (.pr (.int .i64) (.pr (.sl (.sl (.int .i64))) (.pr (.int .i64) (.int .u32))))) y.1, toV1 (.int .i64) y.2])) (ob := (True ∧ True ∧ True)) (((0 : Int), ((0 : Int), (([] : (List (List Int))), ((0 : Int), (0 : Int))))), ret9v) (by kernel_rfl) ⟨trivial, trivial, trivial⟩ h
  · have h := h.2 hb
    refine aw_skip ?_
    refine thenQ_n ?_
    refine aw_seq ?_
    refine aw_region ?_
    refine awl_runp 3 [1, 2, 5] [1, 2, 5] (ob := (True ∧ True ∧ True ∧ True)) (st' := (⟨40, [(1, [], .v (.c (.ptr 1 0))), (2, [], .v (.c (.ptr 2 0))), (5, [], .v (.c (.ptr 5 0)))], [(1, [], .box [.p (.int .i64) m.1, .p (.int .i64) m.2.1, .p (.sl (.sl (.int .i64))) m.2.2.1, .p (.int .i64) m.2.2.2.1, .p (.int .u32) m.2.2.2.2]), (2, [], .box [.p (.int .i64) (0 : Int), .p (.int .i64) (0 : Int), .nils, .p (.int .i64) (0 : Int), .p (.int .u32) (0 : Int)]), (5, [], .box [.p (.int .i64) m.1, .p (.int .i64) m.2.1, .p (.sl (.sl (.int .i64))) m.2.2.1, .p (.int .i64) m.2.2.2.1, .p (.int .u32) m.2.2.2.2])]⟩ : St)) (by kernel_rfl) ⟨trivial, trivial, trivial, trivial⟩ ?_
    refine awl_nil ?_
    refine thenQ_n ?_
    refine aw_seq ?_
    refine aw_region ?_
    refine awl_runp 2 [1, 2, 5] [1, 2, 5] (ob := (True ∧ True ∧ True)) (st' := (⟨40, [(1, [], .v (.c (.ptr 1 0))), (2, [], .v (.c (.ptr 2 0))), (5, [], .v (.c (.ptr 5 0)))], [(1, [], .box [.p (.int .i64) m.1, .p (.int .i64) m.2.1, .p (.sl (.sl (.int .i64))) m.2.2.1, .p (.int .i64) m.2.2.2.1, .p (.int .u32) m.2.2.2.2]), (2, [], .box [.p (.int .i64) (0 : Int), .p (.int .i64) (0 : Int), .nils, .p (.int .i64) (0 : Int), .p (.int .u32) (0 : Int)]), (5, [], .box [.p (.int .i64) m.1, .p (.int .i64) m.2.1, .nils, .p (.int .i64) m.2.2.2.1, .p (.int .u32) m.2.2.2.2])]⟩ : St)) (by kernel_rfl) ⟨trivial, trivial, trivial⟩ ?_
    refine awl_nil ?_
    refine thenQ_n ?_
    refine aw_seq ?_
    refine aw_seq ?_
    refine aw_region ?_
    refine awl_runp 4 [1, 2, 5, 17, 18, 19] [1, 2, 5] (ob := (True ∧ True ∧ True ∧ True ∧ True)) (st' := (⟨40, [(1, [], .v (.c (.ptr 1 0))), (2, [], .v (.c (.ptr 2 0))), (5, [], .v (.c (.ptr 5 0))), (17, [], .v (.c (.p (.sl (.sl (.int .i64))) m.2.2.1))), (18, [], .v (.c (.p (.int .i64) (m.2.2.1.length : Int)))), (19, [], .v (.c (.p (.int .i64) (0 : Int))))], [(1, [], .box [.p (.int .i64) m.1, .p (.int .i64) m.2.1, .p (.sl (.sl (.int .i64))) m.2.2.1, .p (.int .i64) m.2.2.2.1, .p (.int .u32) m.2.2.2.2]), (2, [], .box [.p (.int .i64) (0 : Int), .p (.int .i64) (0 : Int), .nils, .p (.int .i64) (0 : Int), .p (.int .u32) (0 : Int)]), (5, [], .box [.p (.int .i64) m.1, .p (.int .i64) m.2.1, .nils, .p (.int .i64) m.2.2.2.1, .p (.int .u32) m.2.2.2.2])]⟩ : St)) (by kernel_rfl) ⟨trivial, trivial, trivial, trivial, trivial⟩ ?_
    refine awl_nil ?_
    refine thenQ_n ?_
    refine withJoin (σ := (List (List Int))) (fun s => (⟨40, [(1, [], .v (.c (.ptr 1 0))), (2, [], .v (.c (.ptr 2 0))), (5, [], .v (.c (.ptr 5 0)))], [(1, [], .box [.p (.int .i64) m.1, .p (.int .i64) m.2.1, .p (.sl (.sl (.int .i64))) m.2.2.1, .p (.int .i64) m.2.2.2.1, .p (.int .u32) m.2.2.2.2]), (2, [], .box [.p (.int .i64) (0 : Int), .p (.int .i64) (0 : Int), .nils, .p (.int .i64) (0 : Int), .p (.int .u32) (0 : Int)]), (5, [], .box [.p (.int .i64) m.1, .p (.int .i64) m.2.1, .own 6102, .p (.int .i64) m.2.2.2.1, .p (.int .u32) m.2.2.2.2]), (6102, [], .arr 26 (.sl (.int .i64)) s)]⟩ : St)) (fun s => VC18_k1 m K s) (fun l6102 h => ?_) (fun rest1 => ?_)
    · have h : VC18_k1 m K l6102 := h
      unfold VC18_k1 at h
      refine thenQ_n ?_
      refine aw_seq ?_
      refine awd_begin [5] (by kernel_rfl) ?_
      obtain ⟨o1, h⟩ := h
      refine awd_runp (by kernel_rfl) [0, 1, 2, 3, 4, 5, 6, 7] [2, 5, 37, 38] [2, 5, 6102] (ob := (True ∧ True ∧ 0 ≤ m.1 ∧ True ∧ True ∧ True ∧ True ∧ True ∧ True)) (done' := [7, 6, 5, 4, 3, 2, 1, 0]) (st' := (⟨40, [(2, [], .v (.c (.ptr 2 0))), (5, [], .v (.c (.ptr 5 0))), (37, [], .v (.c (.p (.int .u32) (bAndNot .u32 (IntKind.wrap .u32 ((bShl .u32 (1 : Int) m.1) - (1 : Int))) m.2.2.2.2)))), (38, [], .v (.c (.ptr 5 4)))], [(2, [], .box [.p (.int .i64) (0 : Int), .p (.int .i64) (0 : Int), .nils, .p (.int .i64) (0 : Int), .p (.int .u32) (0 : Int)]), (5, [], .box [.p (.int .i64) m.1, .p (.int .i64) m.2.1, .own 6102, .p (.int .i64) m.2.2.2.1, .p (.int .u32) m.2.2.2.2]), (6102, [], .arr 26 (.sl (.int .i64)) l6102)]⟩ : St)) (by kernel_rfl) ⟨trivial, trivial, o1, trivial, trivial, trivial, trivial, trivial, trivial⟩ ?_
      refine awd_one (i := 8) (by kernel_rfl) ?_
      refine adop_stepp [2, 5] [2, 5, 6102] (ob := True) (st' := (⟨40, [(2, [], .v (.c (.ptr 2 0))), (5, [], .v (.c (.ptr 5 0)))], [(2, [], .box [.p (.int .i64) (0 : Int), .p (.int .i64) (0 : Int), .nils, .p (.int .i64) (0 : Int), .p (.int .u32) (0 : Int)]), (5, [], .box [.p (.int .i64) m.1, .p (.int .i64) m.2.1, .own 6102, .p (.int .i64) m.2.2.2.1, .p (.int .u32) (bAndNot .u32 (IntKind.wrap .u32 ((bShl .u32 (1 : Int) m.1) - (1 : Int))) m.2.2.2.2)]), (6102, [], .arr 26 (.sl (.int .i64)) l6102)]⟩ : St)) rfl (by kernel_rfl) trivial ?_
      refine awd_done (by kernel_rfl) ?_
      refine thenQ_n ?_
      refine aw_seq ?_
      refine aw_region ?_
      refine awl_runp 3 [2, 3] [2, 6102] (ob := (True ∧ True ∧ True ∧ True)) (st' := (⟨40, [(2, [], .v (.c (.ptr 2 0))), (3, [], .v (.c (.p (.int .i64) (0 : Int))))], [(2, [], .box [.p (.int .i64) m.1, .p (.int .i64) m.2.1, .own 6102, .p (.int .i64) m.2.2.2.1, .p (.int .u32) (bAndNot .u32 (IntKind.wrap .u32 ((bShl .u32 (1 : Int) m.1) - (1 : Int))) m.2.2.2.2)]), (6102, [], .arr 26 (.sl (.int .i64)) l6102)]⟩ : St)) (by kernel_rfl) ⟨trivial, trivial, trivial, trivial⟩ ?_
      refine awl_nil ?_
      refine thenQ_n ?_
      refine aw_conv [.freeze 6102] (st' := (⟨40, [(2, [], .v (.c (.ptr 2 0))), (3, [], .v (.c (.p (.int .i64) (0 : Int))))], [(2, [], .box [.p (.int .i64) m.1, .p (.int .i64) m.2.1, .p (.sl (.sl (.int .i64))) l6102, .p (.int .i64) m.2.2.2.1, .p (.int .u32) (bAndNot .u32 (IntKind.wrap .u32 ((bShl .u32 (1 : Int) m.1) - (1 : Int))) m.2.2.2.2)])]⟩ : St)) (by kernel_rfl) ?_
      refine aw_ret ?_
      exact retQ_r (σ := (Int × (Int × ((List (List Int)) × (Int × Int)))) × Int) (R := (fun y => [toV1 (.pr (.int .i64) (.pr (.int .i64) (.pr (.sl (.sl (.int .i64))) (.pr (.int .i64) (.int .u32))))) y.1, toV1 (.int .i64) y.2])) (ob := (True ∧ True ∧ True)) ((m.1, (m.2.1, (l6102, (m.2.2.2.1, (bAndNot .u32 (IntKind.wrap .u32 ((bShl .u32 (1 : Int) m.1) - (1 : Int))) m.2.2.2.2))))), (0 : Int)) (by kernel_rfl) ⟨trivial, trivial, trivial⟩ h
    · refine aw_block ?_
      refine aw_conv [.nilOwnB 5 2 6102 26 (.sl (.int .i64)), .prune [1, 2, 5, 17, 18, 19] [1, 2, 5, 6102]] (st' := (⟨40, [(1, [], .v (.c (.ptr 1 0))), (2, [], .v (.c (.ptr 2 0))), (5, [], .v (.c (.ptr 5 0))), (17, [], .v (.c (.p (.sl (.sl (.int .i64))) m.2.2.1))), (18, [], .v (.c (.p (.int .i64) (m.2.2.1.length : Int)))), (19, [], .v (.c (.p (.int .i64) (0 : Int))))], [(1, [], .box [.p (.int .i64) m.1, .p (.int .i64) m.2.1, .p (.sl (.sl (.int .i64))) m.2.2.1, .p (.int .i64) m.2.2.2.1, .p (.int .u32) m.2.2.2.2]), (2, [], .box [.p (.int .i64) (0 : Int), .p (.int .i64) (0 : Int), .nils, .p (.int .i64) (0 : Int), .p (.int .u32) (0 : Int)]), (5, [], .box [.p (.int .i64) m.1, .p (.int .i64) m.2.1, .own 6102, .p (.int .i64) m.2.2.2.1, .p (.int .u32) m.2.2.2.2]), (6102, [], .arr 26 (.sl (.int .i64)) ([] : List (List Int)))]⟩ : St)) (by kernel_rfl) ?_
      refine aw_loop (σ := Int × (List (List Int))) (fun s => (⟨40, [(1, [], .v (.c (.ptr 1 0))), (2, [], .v (.c (.ptr 2 0))), (5, [], .v (.c (.ptr 5 0))), (17, [], .v (.c (.p (.sl (.sl (.int .i64))) m.2.2.1))), (18, [], .v (.c (.p (.int .i64) (m.2.2.1.length : Int)))), (19, [], .v (.c (.p (.int .i64) s.1)))], [(1, [], .box [.p (.int .i64) m.1, .p (.int .i64) m.2.1, .p (.sl (.sl (.int .i64))) m.2.2.1, .p (.int .i64) m.2.2.2.1, .p (.int .u32) m.2.2.2.2]), (2, [], .box [.p (.int .i64) (0 : Int), .p (.int .i64) (0 : Int), .nils, .p (.int .i64) (0 : Int), .p (.int .u32) (0 : Int)]), (5, [], .box [.p (.int .i64) m.1, .p (.int .i64) m.2.1, .own 6102, .p (.int .i64) m.2.2.2.1, .p (.int .u32) m.2.2.2.2]), (6102, [], .arr 26 (.sl (.int .i64)) s.2)]⟩ : St)) (fun s X => VC18_l1 m K s.1 s.2 X) (s0 := ((0 : Int), ([] : List (List Int)))) (fun s X1 h => ?_) h
      obtain ⟨v19, l6102⟩ := s
      have h : VC18_l1 m K v19 l6102 X1 := h
      unfold VC18_l1 at h
      refine aw_seq ?_
      refine aw_region ?_
      refine awl_runp 1 [1, 2, 5, 17, 18, 19, 20] [1, 2, 5, 6102] (ob := (True ∧ True)) (st' := (⟨40, [(1, [], .v (.c (.ptr 1 0))), (2, [], .v (.c (.ptr 2 0))), (5, [], .v (.c (.ptr 5 0))), (17, [], .v (.c (.p (.sl (.sl (.int .i64))) m.2.2.1))), (18, [], .v (.c (.p (.int .i64) (m.2.2.1.length : Int)))), (19, [], .v (.c (.p (.int .i64) v19))), (20, [], .v (.c (.p .bool (decide (v19 < (m.2.2.1.length : Int))))))], [(1, [], .box [.p (.int .i64) m.1, .p (.int .i64) m.2.1, .p (.sl (.sl (.int .i64))) m.2.2.1, .p (.int .i64) m.2.2.2.1, .p (.int .u32) m.2.2.2.2]), (2, [], .box [.p (.int .i64) (0 : Int), .p (.int .i64) (0 : Int), .nils, .p (.int .i64) (0 : Int), .p (.int .u32) (0 : Int)]), (5, [], .box [.p (.int .i64) m.1, .p (.int .i64) m.2.1, .own 6102, .p (.int .i64) m.2.2.2.1, .p (.int .u32) m.2.2.2.2]), (6102, [], .arr 26 (.sl (.int .i64)) l6102)]⟩ : St)) (by kernel_rfl) ⟨trivial, trivial⟩ ?_
      refine awl_nil ?_
      refine thenQ_n ?_
      refine aw_seq ?_
      refine aw_cond (b := (decide (v19 < (m.2.2.1.length : Int)))) (by kernel_rfl) (fun hb => ?_) (fun hb => ?_)
      · have h := h.1 hb
        refine aw_skip ?_
        refine thenQ_n ?_
        refine aw_seq ?_
        refine withJoin (σ := (List (List Int))) (fun s => (⟨40, [(1, [], .v (.c (.ptr 1 0))), (2, [], .v (.c (.ptr 2 0))), (5, [], .v (.c (.ptr 5 0))), (17, [], .v (.c (.p (.sl (.sl (.int .i64))) m.2.2.1))), (18, [], .v (.c (.p (.int .i64) (m.2.2.1.length : Int)))), (19, [], .v (.c (.p (.int .i64) v19)))], [(1, [], .box [.p (.int .i64) m.1, .p (.int .i64) m.2.1, .p (.sl (.sl (.int .i64))) m.2.2.1, .p (.int .i64) m.2.2.2.1, .p (.int .u32) m.2.2.2.2]), (2, [], .box [.p (.int .i64) (0 : Int), .p (.int .i64) (0 : Int), .nils, .p (.int .i64) (0 : Int), .p (.int .u32) (0 : Int)]), (5, [], .box [.p (.int .i64) m.1, .p (.int .i64) m.2.1, .own 28, .p (.int .i64) m.2.2.2.1, .p (.int .u32) m.2.2.2.2]), (28, [], .arr 26 (.sl (.int .i64)) s)]⟩ : St)) (fun s => VC18_k2 v19 X1 s) (fun l28 h => ?_) (fun rest2 => ?_)
        · have h : VC18_k2 v19 X1 l28 := h
          unfold VC18_k2 at h
          refine thenQ_n ?_
          refine aw_region ?_
          obtain ⟨o1, h⟩ := h
          refine awl_runp 2 [1, 2, 5, 17, 18, 19] [1, 2, 5, 28] (ob := (InR (v19 + (1 : Int)) ∧ True ∧ True)) (st' := (⟨40, [(1, [], .v (.c (.ptr 1 0))), (2, [], .v (.c (.ptr 2 0))), (5, [], .v (.c (.ptr 5 0))), (17, [], .v (.c (.p (.sl (.sl (.int .i64))) m.2.2.1))), (18, [], .v (.c (.p (.int .i64) (m.2.2.1.length : Int)))), (19, [], .v (.c (.p (.int .i64) (v19 + (1 : Int)))))], [(1, [], .box [.p (.int .i64) m.1, .p (.int .i64) m.2.1, .p (.sl (.sl (.int .i64))) m.2.2.1, .p (.int .i64) m.2.2.2.1, .p (.int .u32) m.2.2.2.2]), (2, [], .box [.p (.int .i64) (0 : Int), .p (.int .i64) (0 : Int), .nils, .p (.int .i64) (0 : Int), .p (.int .u32) (0 : Int)]), (5, [], .box [.p (.int .i64) m.1, .p (.int .i64) m.2.1, .own 28, .p (.int .i64) m.2.2.2.1, .p (.int .u32) m.2.2.2.2]), (28, [], .arr 26 (.sl (.int .i64)) l28)]⟩ : St)) (by kernel_rfl) ⟨o1, trivial, trivial⟩ ?_
          refine awl_conv [.ren 28 20028, .ren 20028 6102] (st' := (⟨40, [(1, [], .v (.c (.ptr 1 0))), (2, [], .v (.c (.ptr 2 0))), (5, [], .v (.c (.ptr 5 0))), (17, [], .v (.c (.p (.sl (.sl (.int .i64))) m.2.2.1))), (18, [], .v (.c (.p (.int .i64) (m.2.2.1.length : Int)))), (19, [], .v (.c (.p (.int .i64) (v19 + (1 : Int)))))], [(1, [], .box [.p (.int .i64) m.1, .p (.int .i64) m.2.1, .p (.sl (.sl (.int .i64))) m.2.2.1, .p (.int .i64) m.2.2.2.1, .p (.int .u32) m.2.2.2.2]), (2, [], .box [.p (.int .i64) (0 : Int), .p (.int .i64) (0 : Int), .nils, .p (.int .i64) (0 : Int), .p (.int .u32) (0 : Int)]), (5, [], .box [.p (.int .i64) m.1, .p (.int .i64) m.2.1, .own 6102, .p (.int .i64) m.2.2.2.1, .p (.int .u32) m.2.2.2.2]), (6102, [], .arr 26 (.sl (.int .i64)) l28)]⟩ : St)) (by kernel_rfl) ?_
          refine awl_nil ?_
          exact thenQ_n ⟨((v19 + (1 : Int)), l28), rfl, h⟩
        · refine aw_block ?_
          refine aw_seq ?_
          refine aw_region ?_
          obtain ⟨o1, h⟩ := h
          refine awl_runp 3 [1, 2, 5, 7, 17, 18, 19] [1, 2, 5, 6102] (ob := (inIdx v19 m.2.2.1.length ∧ True ∧ True ∧ True)) (st' := (⟨40, [(1, [], .v (.c (.ptr 1 0))), (2, [], .v (.c (.ptr 2 0))), (5, [], .v (.c (.ptr 5 0))), (7, [], .v (.c (.p (.sl (.int .i64)) (m.2.2.1.getD (v19).toNat ([] : (List Int)))))), (17, [], .v (.c (.p (.sl (.sl (.int .i64))) m.2.2.1))), (18, [], .v (.c (.p (.int .i64) (m.2.2.1.length : Int)))), (19, [], .v (.c (.p (.int .i64) v19)))], [(1, [], .box [.p (.int .i64) m.1, .p (.int .i64) m.2.1, .p (.sl (.sl (.int .i64))) m.2.2.1, .p (.int .i64) m.2.2.2.1, .p (.int .u32) m.2.2.2.2]), (2, [], .box [.p (.int .i64) (0 : Int), .p (.int .i64) (0 : Int), .nils, .p (.int .i64) (0 : Int), .p (.int .u32) (0 : Int)]), (5, [], .box [.p (.int .i64) m.1, .p (.int .i64) m.2.1, .own 6102, .p (.int .i64) m.2.2.2.1, .p (.int .u32) m.2.2.2.2]), (6102, [], .arr 26 (.sl (.int .i64)) l6102)]⟩ : St)) (by kernel_rfl) ⟨o1, trivial, trivial, trivial⟩ ?_
          refine awl_nil ?_
          refine thenQ_n ?_
          refine awd_begin [5, 6102] (by kernel_rfl) ?_
          refine awd_runp (by kernel_rfl) [0, 2] [1, 2, 5, 17, 18, 19, 23, 25] [1, 2, 5, 6102] (ob := (True ∧ True ∧ True)) (done' := [2, 0]) (st' := (⟨40, [(1, [], .v (.c (.ptr 1 0))), (2, [], .v (.c (.ptr 2 0))), (5, [], .v (.c (.ptr 5 0))), (17, [], .v (.c (.p (.sl (.sl (.int .i64))) m.2.2.1))), (18, [], .v (.c (.p (.int .i64) (m.2.2.1.length : Int)))), (19, [], .v (.c (.p (.int .i64) v19))), (23, [], .v (.c (.ptr 5 2))), (25, [], .v (.c (.p (.sl (.int .i64)) (m.2.2.1.getD (v19).toNat ([] : (List Int))))))], [(1, [], .box [.p (.int .i64) m.1, .p (.int .i64) m.2.1, .p (.sl (.sl (.int .i64))) m.2.2.1, .p (.int .i64) m.2.2.2.1, .p (.int .u32) m.2.2.2.2]), (2, [], .box [.p (.int .i64) (0 : Int), .p (.int .i64) (0 : Int), .nils, .p (.int .i64) (0 : Int), .p (.int .u32) (0 : Int)]), (5, [], .box [.p (.int .i64) m.1, .p (.int .i64) m.2.1, .own 6102, .p (.int .i64) m.2.2.2.1, .p (.int .u32) m.2.2.2.2]), (6102, [], .arr 26 (.sl (.int .i64)) l6102)]⟩ : St)) (by kernel_rfl) ⟨trivial, trivial, trivial⟩ ?_
          refine awd_two (i := 1) (j := 3) (by kernel_rfl) ?_ ?_
          · have h := h
            refine adop_stepp [1, 2, 5, 17, 18, 19, 24, 25] [1, 2, 5, 6102] (ob := True) (st' := (⟨40, [(1, [], .v (.c (.ptr 1 0))), (2, [], .v (.c (.ptr 2 0))), (5, [], .v (.c (.ptr 5 0))), (17, [], .v (.c (.p (.sl (.sl (.int .i64))) m.2.2.1))), (18, [], .v (.c (.p (.int .i64) (m.2.2.1.length : Int)))), (19, [], .v (.c (.p (.int .i64) v19))), (24, [], .v (.c (.own 6102))), (25, [], .v (.c (.p (.sl (.int .i64)) (m.2.2.1.getD (v19).toNat ([] : (List Int))))))], [(1, [], .box [.p (.int .i64) m.1, .p (.int .i64) m.2.1, .p (.sl (.sl (.int .i64))) m.2.2.1, .p (.int .i64) m.2.2.2.1, .p (.int .u32) m.2.2.2.2]), (2, [], .box [.p (.int .i64) (0 : Int), .p (.int .i64) (0 : Int), .nils, .p (.int .i64) (0 : Int), .p (.int .u32) (0 : Int)]), (5, [], .box [.p (.int .i64) m.1, .p (.int .i64) m.2.1, .own 6102, .p (.int .i64) m.2.2.2.1, .p (.int .u32) m.2.2.2.2]), (6102, [], .arr 26 (.sl (.int .i64)) l6102)]⟩ : St)) rfl (by kernel_rfl) trivial ?_
            refine awd_one (i := 3) (by kernel_rfl) ?_
            refine adop_callOk (e := 3) (t := (.int .i64)) (l := [toV1 (.sl (.int .i64)) (m.2.2.1.getD (v19).toNat ([] : (List Int)))]) (cl := []) false [.d (.sl (.int .i64))] [1, 2, 5, 17, 18, 19, 24, 26] [1, 2, 5, 26, 6102] (fun (ret26v : (List Int)) => (roomN (l6102.length + [ret26v].length) ∧ VC18_k2 v19 X1 (l6102 ++ [ret26v]))) (fun ret26v => (⟨40, [(1, [], .v (.c (.ptr 1 0))), (2, [], .v (.c (.ptr 2 0))), (5, [], .v (.c (.ptr 5 0))), (17, [], .v (.c (.p (.sl (.sl (.int .i64))) m.2.2.1))), (18, [], .v (.c (.p (.int .i64) (m.2.2.1.length : Int)))), (19, [], .v (.c (.p (.int .i64) v19))), (24, [], .v (.c (.own 6102))), (26, [], .v (.c (.own 26)))], [(1, [], .box [.p (.int .i64) m.1, .p (.int .i64) m.2.1, .p (.sl (.sl (.int .i64))) m.2.2.1, .p (.int .i64) m.2.2.2.1, .p (.int .u32) m.2.2.2.2]), (2, [], .box [.p (.int .i64) (0 : Int), .p (.int .i64) (0 : Int), .nils, .p (.int .i64) (0 : Int), .p (.int .u32) (0 : Int)]), (5, [], .box [.p (.int .i64) m.1, .p (.int .i64) m.2.1, .own 6102, .p (.int .i64) m.2.2.2.1, .p (.int .u32) m.2.2.2.2]), (26, [], .arr 3 (.int .i64) ret26v), (6102, [], .arr 26 (.sl (.int .i64)) l6102)]⟩ : St)) rfl rfl rfl (by kernel_rfl) rfl (by kernel_rfl) Try.call43 (by kernel_rfl) (fun e => by cases e) (fun ret26v => by kernel_rfl) (link43 (m.2.2.1.getD (v19).toNat ([] : (List Int))) _ h) (fun ret26v h => ?_)
            have h : (roomN (l6102.length + [ret26v].length) ∧ VC18_k2 v19 X1 (l6102 ++ [ret26v])) := h
            refine awd_conv [.freeze 26] (st' := (⟨40, [(1, [], .v (.c (.ptr 1 0))), (2, [], .v (.c (.ptr 2 0))), (5, [], .v (.c (.ptr 5 0))), (17, [], .v (.c (.p (.sl (.sl (.int .i64))) m.2.2.1))), (18, [], .v (.c (.p (.int .i64) (m.2.2.1.length : Int)))), (19, [], .v (.c (.p (.int .i64) v19))), (24, [], .v (.c (.own 6102))), (26, [], .v (.c (.p (.sl (.int .i64)) ret26v)))], [(1, [], .box [.p (.int .i64) m.1, .p (.int .i64) m.2.1, .p (.sl (.sl (.int .i64))) m.2.2.1, .p (.int .i64) m.2.2.2.1, .p (.int .u32) m.2.2.2.2]), (2, [], .box [.p (.int .i64) (0 : Int), .p (.int .i64) (0 : Int), .nils, .p (.int .i64) (0 : Int), .p (.int .u32) (0 : Int)]), (5, [], .box [.p (.int .i64) m.1, .p (.int .i64) m.2.1, .own 6102, .p (.int .i64) m.2.2.2.1, .p (.int .u32) m.2.2.2.2]), (6102, [], .arr 26 (.sl (.int .i64)) l6102)]⟩ : St)) (by kernel_rfl) rfl ?_
            refine awd_one (i := 4) (by kernel_rfl) ?_
            refine adop_stepp [1, 2, 5, 17, 18, 19, 24, 27] [1, 2, 5, 27, 6102] (ob := True) (st' := (⟨40, [(1, [], .v (.c (.ptr 1 0))), (2, [], .v (.c (.ptr 2 0))), (5, [], .v (.c (.ptr 5 0))), (17, [], .v (.c (.p (.sl (.sl (.int .i64))) m.2.2.1))), (18, [], .v (.c (.p (.int .i64) (m.2.2.1.length : Int)))), (19, [], .v (.c (.p (.int .i64) v19))), (24, [], .v (.c (.own 6102))), (27, [], .v (.c (.own 27)))], [(1, [], .box [.p (.int .i64) m.1, .p (.int .i64) m.2.1, .p (.sl (.sl (.int .i64))) m.2.2.1, .p (.int .i64) m.2.2.2.1, .p (.int .u32) m.2.2.2.2]), (2, [], .box [.p (.int .i64) (0 : Int), .p (.int .i64) (0 : Int), .nils, .p (.int .i64) (0 : Int), .p (.int .u32) (0 : Int)]), (5, [], .box [.p (.int .i64) m.1, .p (.int .i64) m.2.1, .own 6102, .p (.int .i64) m.2.2.2.1, .p (.int .u32) m.2.2.2.2]), (27, [], .arr 26 (.sl (.int .i64)) [ret26v]), (6102, [], .arr 26 (.sl (.int .i64)) l6102)]⟩ : St)) rfl (by kernel_rfl) trivial ?_
            refine awd_one (i := 5) (by kernel_rfl) ?_
            obtain ⟨o1, h⟩ := h
            refine adop_stepp [1, 2, 5, 17, 18, 19, 28] [1, 2, 5, 28] (ob := roomN (l6102.length + [ret26v].length)) (st' := (⟨40, [(1, [], .v (.c (.ptr 1 0))), (2, [], .v (.c (.ptr 2 0))), (5, [], .v (.c (.ptr 5 0))), (17, [], .v (.c (.p (.sl (.sl (.int .i64))) m.2.2.1))), (18, [], .v (.c (.p (.int .i64) (m.2.2.1.length : Int)))), (19, [], .v (.c (.p (.int .i64) v19))), (28, [], .v (.c (.own 28)))], [(1, [], .box [.p (.int .i64) m.1, .p (.int .i64) m.2.1, .p (.sl (.sl (.int .i64))) m.2.2.1, .p (.int .i64) m.2.2.2.1, .p (.int .u32) m.2.2.2.2]), (2, [], .box [.p (.int .i64) (0 : Int), .p (.int .i64) (0 : Int), .nils, .p (.int .i64) (0 : Int), .p (.int .u32) (0 : Int)]), (5, [], .box [.p (.int .i64) m.1, .p (.int .i64) m.2.1, .any, .p (.int .i64) m.2.2.2.1, .p (.int .u32) m.2.2.2.2]), (28, [], .arr 26 (.sl (.int .i64)) (l6102 ++ [ret26v]))]⟩ : St)) rfl (by kernel_rfl) o1 ?_
            refine awd_runp (by kernel_rfl) [6] [1, 2, 5, 17, 18, 19, 28, 29] [1, 2, 5, 28] (ob := (True ∧ True)) (done' := [6, 5, 4, 3, 1, 2, 0]) (st' := (⟨40, [(1, [], .v (.c (.ptr 1 0))), (2, [], .v (.c (.ptr 2 0))), (5, [], .v (.c (.ptr 5 0))), (17, [], .v (.c (.p (.sl (.sl (.int .i64))) m.2.2.1))), (18, [], .v (.c (.p (.int .i64) (m.2.2.1.length : Int)))), (19, [], .v (.c (.p (.int .i64) v19))), (28, [], .v (.c (.own 28))), (29, [], .v (.c (.ptr 5 2)))], [(1, [], .box [.p (.int .i64) m.1, .p (.int .i64) m.2.1, .p (.sl (.sl (.int .i64))) m.2.2.1, .p (.int .i64) m.2.2.2.1, .p (.int .u32) m.2.2.2.2]), (2, [], .box [.p (.int .i64) (0 : Int), .p (.int .i64) (0 : Int), .nils, .p (.int .i64) (0 : Int), .p (.int .u32) (0 : Int)]), (5, [], .box [.p (.int .i64) m.1, .p (.int .i64) m.2.1, .any, .p (.int .i64) m.2.2.2.1, .p (.int .u32) m.2.2.2.2]), (28, [], .arr 26 (.sl (.int .i64)) (l6102 ++ [ret26v]))]⟩ : St)) (by kernel_rfl) ⟨trivial, trivial⟩ ?_
            refine awd_one (i := 7) (by kernel_rfl) ?_
            refine adop_stepp [1, 2, 5, 17, 18, 19] [1, 2, 5, 28] (ob := True) (st' := (⟨40, [(1, [], .v (.c (.ptr 1 0))), (2, [], .v (.c (.ptr 2 0))), (5, [], .v (.c (.ptr 5 0))), (17, [], .v (.c (.p (.sl (.sl (.int .i64))) m.2.2.1))), (18, [], .v (.c (.p (.int .i64) (m.2.2.1.length : Int)))), (19, [], .v (.c (.p (.int .i64) v19)))], [(1, [], .box [.p (.int .i64) m.1, .p (.int .i64) m.2.1, .p (.sl (.sl (.int .i64))) m.2.2.1, .p (.int .i64) m.2.2.2.1, .p (.int .u32) m.2.2.2.2]), (2, [], .box [.p (.int .i64) (0 : Int), .p (.int .i64) (0 : Int), .nils, .p (.int .i64) (0 : Int), .p (.int .u32) (0 : Int)]), (5, [], .box [.p (.int .i64) m.1, .p (.int .i64) m.2.1, .own 28, .p (.int .i64) m.2.2.2.1, .p (.int .u32) m.2.2.2.2]), (28, [], .arr 26 (.sl (.int .i64)) (l6102 ++ [ret26v]))]⟩ : St)) rfl (by kernel_rfl) trivial ?_
            refine awd_done (by kernel_rfl) ?_
            refine blockQ_n ?_
            exact rest2 (l6102 ++ [ret26v]) h
          · have h := h
            refine adop_callOk (e := 3) (t := (.int .i64)) (l := [toV1 (.sl (.int .i64)) (m.2.2.1.getD (v19).toNat ([] : (List Int)))]) (cl := []) false [.d (.sl (.int .i64))] [1, 2, 5, 17, 18, 19, 23, 26] [1, 2, 5, 26, 6102] (fun (ret26v : (List Int)) => (roomN (l6102.length + [ret26v].length) ∧ VC18_k2 v19 X1 (l6102 ++ [ret26v]))) (fun ret26v => (⟨40, [(1, [], .v (.c (.ptr 1 0))), (2, [], .v (.c (.ptr 2 0))), (5, [], .v (.c (.ptr 5 0))), (17, [], .v (.c (.p (.sl (.sl (.int .i64))) m.2.2.1))), (18, [], .v (.c (.p (.int .i64) (m.2.2.1.length : Int)))), (19, [], .v (.c (.p (.int .i64) v19))), (23, [], .v (.c (.ptr 5 2))), (26, [], .v (.c (.own 26)))], [(1, [], .box [.p (.int .i64) m.1, .p (.int .i64) m.2.1, .p (.sl (.sl (.int .i64))) m.2.2.1, .p (.int .i64) m.2.2.2.1, .p (.int .u32) m.2.2.2.2]), (2, [], .box [.p (.int .i64) (0 : Int), .p (.int .i64) (0 : Int), .nils, .p (.int .i64) (0 : Int), .p (.int .u32) (0 : Int)]), (5, [], .box [.p (.int .i64) m.1, .p (.int .i64) m.2.1, .own 6102, .p (.int .i64) m.2.2.2.1, .p (.int .u32) m.2.2.2.2]), (26, [], .arr 3 (.int .i64) ret26v), (6102, [], .arr 26 (.sl (.int .i64)) l6102)]⟩ : St)) rfl rfl rfl (by kernel_rfl) rfl (by kernel_rfl) Try.call43 (by kernel_rfl) (fun e => by cases e) (fun ret26v => by kernel_rfl) (link43 (m.2.2.1.getD (v19).toNat ([] : (List Int))) _ h) (fun ret26v h => ?_)
            have h : (roomN (l6102.length + [ret26v].length) ∧ VC18_k2 v19 X1 (l6102 ++ [ret26v])) := h
            refine awd_conv [.freeze 26] (st' := (⟨40, [(1, [], .v (.c (.ptr 1 0))), (2, [], .v (.c (.ptr 2 0))), (5, [], .v (.c (.ptr 5 0))), (17, [], .v (.c (.p (.sl (.sl (.int .i64))) m.2.2.1))), (18, [], .v (.c (.p (.int .i64) (m.2.2.1.length : Int)))), (19, [], .v (.c (.p (.int .i64) v19))), (23, [], .v (.c (.ptr 5 2))), (26, [], .v (.c (.p (.sl (.int .i64)) ret26v)))], [(1, [], .box [.p (.int .i64) m.1, .p (.int .i64) m.2.1, .p (.sl (.sl (.int .i64))) m.2.2.1, .p (.int .i64) m.2.2.2.1, .p (.int .u32) m.2.2.2.2]), (2, [], .box [.p (.int .i64) (0 : Int), .p (.int .i64) (0 : Int), .nils, .p (.int .i64) (0 : Int), .p (.int .u32) (0 : Int)]), (5, [], .box [.p (.int .i64) m.1, .p (.int .i64) m.2.1, .own 6102, .p (.int .i64) m.2.2.2.1, .p (.int .u32) m.2.2.2.2]), (6102, [], .arr 26 (.sl (.int .i64)) l6102)]⟩ : St)) (by kernel_rfl) rfl ?_
            refine awd_two (i := 1) (j := 4) (by kernel_rfl) ?_ ?_
            · have h := h
              refine adop_stepp [1, 2, 5, 17, 18, 19, 24, 26] [1, 2, 5, 6102] (ob := True) (st' := (⟨40, [(1, [], .v (.c (.ptr 1 0))), (2, [], .v (.c (.ptr 2 0))), (5, [], .v (.c (.ptr 5 0))), (17, [], .v (.c (.p (.sl (.sl (.int .i64))) m.2.2.1))), (18, [], .v (.c (.p (.int .i64) (m.2.2.1.length : Int)))), (19, [], .v (.c (.p (.int .i64) v19))), (24, [], .v (.c (.own 6102))), (26, [], .v (.c (.p (.sl (.int .i64)) ret26v)))], [(1, [], .box [.p (.int .i64) m.1, .p (.int .i64) m.2.1, .p (.sl (.sl (.int .i64))) m.2.2.1, .p (.int .i64) m.2.2.2.1, .p (.int .u32) m.2.2.2.2]), (2, [], .box [.p (.int .i64) (0 : Int), .p (.int .i64) (0 : Int), .nils, .p (.int .i64) (0 : Int), .p (.int .u32) (0 : Int)]), (5, [], .box [.p (.int .i64) m.1, .p (.int .i64) m.2.1, .own 6102, .p (.int .i64) m.2.2.2.1, .p (.int .u32) m.2.2.2.2]), (6102, [], .arr 26 (.sl (.int .i64)) l6102)]⟩ : St)) rfl (by kernel_rfl) trivial ?_
              refine awd_one (i := 4) (by kernel_rfl) ?_
              refine adop_stepp [1, 2, 5, 17, 18, 19, 24, 27] [1, 2, 5, 27, 6102] (ob := True) (st' := (⟨40, [(1, [], .v (.c (.ptr 1 0))), (2, [], .v (.c (.ptr 2 0))), (5, [], .v (.c (.ptr 5 0))), (17, [], .v (.c (.p (.sl (.sl (.int .i64))) m.2.2.1))), (18, [], .v (.c (.p (.int .i64) (m.2.2.1.length : Int)))), (19, [], .v (.c (.p (.int .i64) v19))), (24, [], .v (.c (.own 6102))), (27, [], .v (.c (.own 27)))], [(1, [], .box [.p (.int .i64) m.1, .p (.int .i64) m.2.1, .p (.sl (.sl (.int .i64))) m.2.2.1, .p (.int .i64) m.2.2.2.1, .p (.int .u32) m.2.2.2.2]), (2, [], .box [.p (.int .i64) (0 : Int), .p (.int .i64) (0 : Int), .nils, .p (.int .i64) (0 : Int), .p (.int .u32) (0 : Int)]), (5, [], .box [.p (.int .i64) m.1, .p (.int .i64) m.2.1, .own 6102, .p (.int .i64) m.2.2.2.1, .p (.int .u32) m.2.2.2.2]), (27, [], .arr 26 (.sl (.int .i64)) [ret26v]), (6102, [], .arr 26 (.sl (.int .i64)) l6102)]⟩ : St)) rfl (by kernel_rfl) trivial ?_
              refine awd_one (i := 5) (by kernel_rfl) ?_
              obtain ⟨o1, h⟩ := h
              refine adop_stepp [1, 2, 5, 17, 18, 19, 28] [1, 2, 5, 28] (ob := roomN (l6102.length + [ret26v].length)) (st' := (⟨40, [(1, [], .v (.c (.ptr 1 0))), (2, [], .v (.c (.ptr 2 0))), (5, [], .v (.c (.ptr 5 0))), (17, [], .v (.c (.p (.sl (.sl (.int .i64))) m.2.2.1))), (18, [], .v (.c (.p (.int .i64) (m.2.2.1.length : Int)))), (19, [], .v (.c (.p (.int .i64) v19))), (28, [], .v (.c (.own 28)))], [(1, [], .box [.p (.int .i64) m.1, .p (.int .i64) m.2.1, .p (.sl (.sl (.int .i64))) m.2.2.1, .p (.int .i64) m.2.2.2.1, .p (.int .u32) m.2.2.2.2]), (2, [], .box [.p (.int .i64) (0 : Int), .p (.int .i64) (0 : Int), .nils, .p (.int .i64) (0 : Int), .p (.int .u32) (0 : Int)]), (5, [], .box [.p (.int .i64) m.1, .p (.int .i64) m.2.1, .any, .p (.int .i64) m.2.2.2.1, .p (.int .u32) m.2.2.2.2]), (28, [], .arr 26 (.sl (.int .i64)) (l6102 ++ [ret26v]))]⟩ : St)) rfl (by kernel_rfl) o1 ?_
              refine awd_runp (by kernel_rfl) [6] [1, 2, 5, 17, 18, 19, 28, 29] [1, 2, 5, 28] (ob := (True ∧ True)) (done' := [6, 5, 4, 1, 3, 2, 0]) (st' := (⟨40, [(1, [], .v (.c (.ptr 1 0))), (2, [], .v (.c (.ptr 2 0))), (5, [], .v (.c (.ptr 5 0))), (17, [], .v (.c (.p (.sl (.sl (.int .i64))) m.2.2.1))), (18, [], .v (.c (.p (.int .i64) (m.2.2.1.length : Int)))), (19, [], .v (.c (.p (.int .i64) v19))), (28, [], .v (.c (.own 28))), (29, [], .v (.c (.ptr 5 2)))], [(1, [], .box [.p (.int .i64) m.1, .p (.int .i64) m.2.1, .p (.sl (.sl (.int .i64))) m.2.2.1, .p (.int .i64) m.2.2.2.1, .p (.int .u32) m.2.2.2.2]), (2, [], .box [.p (.int .i64) (0 : Int), .p (.int .i64) (0 : Int), .nils, .p (.int .i64) (0 : Int), .p (.int .u32) (0 : Int)]), (5, [], .box [.p (.int .i64) m.1, .p (.int .i64) m.2.1, .any, .p (.int .i64) m.2.2.2.1, .p (.int .u32) m.2.2.2.2]), (28, [], .arr 26 (.sl (.int .i64)) (l6102 ++ [ret26v]))]⟩ : St)) (by kernel_rfl) ⟨trivial, trivial⟩ ?_
              refine awd_one (i := 7) (by kernel_rfl) ?_
              refine adop_stepp [1, 2, 5, 17, 18, 19] [1, 2, 5, 28] (ob := True) (st' := (⟨40, [(1, [], .v (.c (.ptr 1 0))), (2, [], .v (.c (.ptr 2 0))), (5, [], .v (.c (.ptr 5 0))), (17, [], .v (.c (.p (.sl (.sl (.int .i64))) m.2.2.1))), (18, [], .v (.c (.p (.int .i64) (m.2.2.1.length : Int)))), (19, [], .v (.c (.p (.int .i64) v19)))], [(1, [], .box [.p (.int .i64) m.1, .p (.int .i64) m.2.1, .p (.sl (.sl (.int .i64))) m.2.2.1, .p (.int .i64) m.2.2.2.1, .p (.int .u32) m.2.2.2.2]), (2, [], .box [.p (.int .i64) (0 : Int), .p (.int .i64) (0 : Int), .nils, .p (.int .i64) (0 : Int), .p (.int .u32) (0 : Int)]), (5, [], .box [.p (.int .i64) m.1, .p (.int .i64) m.2.1, .own 28, .p (.int .i64) m.2.2.2.1, .p (.int .u32) m.2.2.2.2]), (28, [], .arr 26 (.sl (.int .i64)) (l6102 ++ [ret26v]))]⟩ : St)) rfl (by kernel_rfl) trivial ?_
              refine awd_done (by kernel_rfl) ?_
              refine blockQ_n ?_
              exact rest2 (l6102 ++ [ret26v]) h
            · have h := h
              refine adop_stepp [1, 2, 5, 17, 18, 19, 23, 27] [1, 2, 5, 27, 6102] (ob := True) (st' := (⟨40, [(1, [], .v (.c (.ptr 1 0))), (2, [], .v (.c (.ptr 2 0))), (5, [], .v (.c (.ptr 5 0))), (17, [], .v (.c (.p (.sl (.sl (.int .i64))) m.2.2.1))), (18, [], .v (.c (.p (.int .i64) (m.2.2.1.length : Int)))), (19, [], .v (.c (.p (.int .i64) v19))), (23, [], .v (.c (.ptr 5 2))), (27, [], .v (.c (.own 27)))], [(1, [], .box [.p (.int .i64) m.1, .p (.int .i64) m.2.1, .p (.sl (.sl (.int .i64))) m.2.2.1, .p (.int .i64) m.2.2.2.1, .p (.int .u32) m.2.2.2.2]), (2, [], .box [.p (.int .i64) (0 : Int), .p (.int .i64) (0 : Int), .nils, .p (.int .i64) (0 : Int), .p (.int .u32) (0 : Int)]), (5, [], .box [.p (.int .i64) m.1, .p (.int .i64) m.2.1, .own 6102, .p (.int .i64) m.2.2.2.1, .p (.int .u32) m.2.2.2.2]), (27, [], .arr 26 (.sl (.int .i64)) [ret26v]), (6102, [], .arr 26 (.sl (.int .i64)) l6102)]⟩ : St)) rfl (by kernel_rfl) trivial ?_
              refine awd_one (i := 1) (by kernel_rfl) ?_
              refine adop_stepp [1, 2, 5, 17, 18, 19, 24, 27] [1, 2, 5, 27, 6102] (ob := True) (st' := (⟨40, [(1, [], .v (.c (.ptr 1 0))), (2, [], .v (.c (.ptr 2 0))), (5, [], .v (.c (.ptr 5 0))), (17, [], .v (.c (.p (.sl (.sl (.int .i64))) m.2.2.1))), (18, [], .v (.c (.p (.int .i64) (m.2.2.1.length : Int)))), (19, [], .v (.c (.p (.int .i64) v19))), (24, [], .v (.c (.own 6102))), (27, [], .v (.c (.own 27)))], [(1, [], .box [.p (.int .i64) m.1, .p (.int .i64) m.2.1, .p (.sl (.sl (.int .i64))) m.2.2.1, .p (.int .i64) m.2.2.2.1, .p (.int .u32) m.2.2.2.2]), (2, [], .box [.p (.int .i64) (0 : Int), .p (.int .i64) (0 : Int), .nils, .p (.int .i64) (0 : Int), .p (.int .u32) (0 : Int)]), (5, [], .box [.p (.int .i64) m.1, .p (.int .i64) m.2.1, .own 6102, .p (.int .i64) m.2.2.2.1, .p (.int .u32) m.2.2.2.2]), (27, [], .arr 26 (.sl (.int .i64)) [ret26v]), (6102, [], .arr 26 (.sl (.int .i64)) l6102)]⟩ : St)) rfl (by kernel_rfl) trivial ?_
              refine awd_one (i := 5) (by kernel_rfl) ?_
              obtain ⟨o1, h⟩ := h
              refine adop_stepp [1, 2, 5, 17, 18, 19, 28] [1, 2, 5, 28] (ob := roomN (l6102.length + [ret26v].length)) (st' := (⟨40, [(1, [], .v (.c (.ptr 1 0))), (2, [], .v (.c (.ptr 2 0))), (5, [], .v (.c (.ptr 5 0))), (17, [], .v (.c (.p (.sl (.sl (.int .i64))) m.2.2.1))), (18, [], .v (.c (.p (.int .i64) (m.2.2.1.length : Int)))), (19, [], .v (.c (.p (.int .i64) v19))), (28, [], .v (.c (.own 28)))], [(1, [], .box [.p (.int .i64) m.1, .p (.int .i64) m.2.1, .p (.sl (.sl (.int .i64))) m.2.2.1, .p (.int .i64) m.2.2.2.1, .p (.int .u32) m.2.2.2.2]), (2, [], .box [.p (.int .i64) (0 : Int), .p (.int .i64) (0 : Int), .nils, .p (.int .i64) (0 : Int), .p (.int .u32) (0 : Int)]), (5, [], .box [.p (.int .i64) m.1, .p (.int .i64) m.2.1, .any, .p (.int .i64) m.2.2.2.1, .p (.int .u32) m.2.2.2.2]), (28, [], .arr 26 (.sl (.int .i64)) (l6102 ++ [ret26v]))]⟩ : St)) rfl (by kernel_rfl) o1 ?_
              refine awd_runp (by kernel_rfl) [6] [1, 2, 5, 17, 18, 19, 28, 29] [1, 2, 5, 28] (ob := (True ∧ True)) (done' := [6, 5, 1, 4, 3, 2, 0]) (st' := (⟨40, [(1, [], .v (.c (.ptr 1 0))), (2, [], .v (.c (.ptr 2 0))), (5, [], .v (.c (.ptr 5 0))), (17, [], .v (.c (.p (.sl (.sl (.int .i64))) m.2.2.1))), (18, [], .v (.c (.p (.int .i64) (m.2.2.1.length : Int)))), (19, [], .v (.c (.p (.int .i64) v19))), (28, [], .v (.c (.own 28))), (29, [], .v (.c (.ptr 5 2)))], [(1, [], .box [.p (.int .i64) m.1, .p (.int .i64) m.2.1, .p (.sl (.sl (.int .i64))) m.2.2.1, .p (.int .i64) m.2.2.2.1, .p (.int .u32) m.2.2.2.2]), (2, [], .box [.p (.int .i64) (0 : Int), .p (.int .i64) (0 : Int), .nils, .p (.int .i64) (0 : Int), .p (.int .u32) (0 : Int)]), (5, [], .box [.p (.int .i64) m.1, .p (.int .i64) m.2.1, .any, .p (.int .i64) m.2.2.2.1, .p (.int .u32) m.2.2.2.2]), (28, [], .arr 26 (.sl (.int .i64)) (l6102 ++ [ret26v]))]⟩ : St)) (by kernel_rfl) ⟨trivial, trivial⟩ ?_
              refine awd_one (i := 7) (by kernel_rfl) ?_
              refine adop_stepp [1, 2, 5, 17, 18, 19] [1, 2, 5, 28] (ob := True) (st' := (⟨40, [(1, [], .v (.c (.ptr 1 0))), (2, [], .v (.c (.ptr 2 0))), (5, [], .v (.c (.ptr 5 0))), (17, [], .v (.c (.p (.sl (.sl (.int .i64))) m.2.2.1))), (18, [], .v (.c (.p (.int .i64) (m.2.2.1.length : Int)))), (19, [], .v (.c (.p (.int .i64) v19)))], [(1, [], .box [.p (.int .i64) m.1, .p (.int .i64) m.2.1, .p (.sl (.sl (.int .i64))) m.2.2.1, .p (.int .i64) m.2.2.2.1, .p (.int .u32) m.2.2.2.2]), (2, [], .box [.p (.int .i64) (0 : Int), .p (.int .i64) (0 : Int), .nils, .p (.int .i64) (0 : Int), .p (.int .u32) (0 : Int)]), (5, [], .box [.p (.int .i64) m.1, .p (.int .i64) m.2.1, .own 28, .p (.int .i64) m.2.2.2.1, .p (.int .u32) m.2.2.2.2]), (28, [], .arr 26 (.sl (.int .i64)) (l6102 ++ [ret26v]))]⟩ : St)) rfl (by kernel_rfl) trivial ?_
              refine awd_done (by kernel_rfl) ?_
              refine blockQ_n ?_
              exact rest2 (l6102 ++ [ret26v]) h
      · have h := h.2 hb
        refine aw_conv [.prune [1, 2, 5] [1, 2, 5, 6102]] (st' := (⟨40, [(1, [], .v (.c (.ptr 1 0))), (2, [], .v (.c (.ptr 2 0))), (5, [], .v (.c (.ptr 5 0)))], [(1, [], .box [.p (.int .i64) m.1, .p (.int .i64) m.2.1, .p (.sl (.sl (.int .i64))) m.2.2.1, .p (.int .i64) m.2.2.2.1, .p (.int .u32) m.2.2.2.2]), (2, [], .box [.p (.int .i64) (0 : Int), .p (.int .i64) (0 : Int), .nils, .p (.int .i64) (0 : Int), .p (.int .u32) (0 : Int)]), (5, [], .box [.p (.int .i64) m.1, .p (.int .i64) m.2.1, .own 6102, .p (.int .i64) m.2.2.2.1, .p (.int .u32) m.2.2.2.2]), (6102, [], .arr 26 (.sl (.int .i64)) l6102)]⟩ : St)) (by kernel_rfl) ?_
        refine aw_exit ?_
        refine thenQ_x ?_
        refine thenQ_x ?_
        refine blockQ_hit ?_
        exact rest1 l6102 h

-- coppicer/coppicerref.WordCheck
def VC17_k1 (K : Int → Prop) : Prop :=
  K (0 : Int)

def VC17_l1 (k : Int) (w : (List Int)) (K : Int → Prop) (v12 : Int) (X1 : Int → Prop) : Prop :=
  (((decide (v12 < (w.length : Int))) = true → (inIdx v12 w.length ∧ ((((decide ((w.getD (v12).toNat (0 : Int)) < (0 : Int))) || (decide (k ≤ (w.getD (v12).toNat (0 : Int))))) = true → K (2 : Int)) ∧ (((decide ((w.getD (v12).toNat (0 : Int)) < (0 : Int))) || (decide (k ≤ (w.getD (v12).toNat (0 : Int))))) = false → (InR (v12 + (1 : Int)) ∧ X1 (v12 + (1 : Int))))))) ∧ ((decide (v12 < (w.length : Int))) = false → VC17_k1 K))

def VC17 (k : Int) (w : (List Int)) (K : Int → Prop) : Prop :=
  (((decide ((12 : Int) < (w.length : Int))) = true → K (1 : Int)) ∧ ((decide ((12 : Int) < (w.length : Int))) = false → Loop (σ := Int) (fun s X => VC17_l1 k w K s X) (0 : Int)))

set_option maxHeartbeats 4000000 in
theorem link17 (k : Int) (w : (List Int)) (K : Int → Prop) (h : VC17 k w K) : ACalls Try.prog 17 [toV1 (.int .i64) k, toV1 (.sl (.int .i64)) w] (fun res => ∃ y, res = (fun y => [toV1 (.int .i64) y]) y ∧ K y) := by
  refine acalls_of_aw [(.int .i64)] [.t 4] Try.func17 rfl rfl rfl ?_
  unfold VC17 at h
  refine aw_seq ?_
  refine aw_region ?_
  refine awl_runp 1 [0, 1] [] (ob := (True ∧ True)) (st' := (⟨24, [(0, [], .v (.c (.p (.int .i64) k))), (1, [], .v (.c (.p (.sl (.int .i64)) w)))], []⟩ : St)) (by kernel_rfl) ⟨trivial, trivial⟩ ?_
  refine awl_nil ?_
  refine thenQ_n ?_
  refine aw_seq ?_
  refine aw_seq ?_
  refine aw_region ?_
  refine awl_runp 3 [0, 1, 9] [] (ob := (True ∧ True ∧ True ∧ True)) (st' := (⟨24, [(0, [], .v (.c (.p (.int .i64) k))), (1, [], .v (.c (.p (.sl (.int .i64)) w))), (9, [], .v (.c (.p .bool (decide ((12 : Int) < (w.length : Int))))))], []⟩ : St)) (by kernel_rfl) ⟨trivial, trivial, trivial, trivial⟩ ?_
  refine awl_nil ?_
  refine thenQ_n ?_
  refine aw_cond (b := (decide ((12 : Int) < (w.length : Int)))) (by kernel_rfl) (fun hb => ?_) (fun hb => ?_)
  · have h := h.1 hb
    refine aw_seq ?_
    refine aw_region ?_
    refine awl_runp 1 [4] [] (ob := (True ∧ True)) (st' := (⟨24, [(4, [], .v (.c (.p (.int .i64) (1 : Int))))], []⟩ : St)) (by kernel_rfl) ⟨trivial, trivial⟩ ?_
    refine awl_nil ?_
    refine thenQ_n ?_
    refine aw_ret ?_
    refine thenQ_r ?_
    exact retQ_r (σ := Int) (R := (fun y => [toV1 (.int .i64) y])) (ob := (True ∧ True)) (1 : Int) (by kernel_rfl) ⟨trivial, trivial⟩ h
  · have h := h.2 hb
    refine aw_skip ?_
    refine thenQ_n ?_
    refine aw_seq ?_
    refine aw_seq ?_
    refine aw_region ?_
    refine awl_runp 3 [0, 10, 11, 12] [] (ob := (True ∧ True ∧ True ∧ True)) (st' := (⟨24, [(0, [], .v (.c (.p (.int .i64) k))), (10, [], .v (.c (.p (.sl (.int .i64)) w))), (11, [], .v (.c (.p (.int .i64) (w.length : Int)))), (12, [], .v (.c (.p (.int .i64) (0 : Int))))], []⟩ : St)) (by kernel_rfl) ⟨trivial, trivial, trivial, trivial⟩ ?_
    refine awl_nil ?_
    refine thenQ_n ?_
    refine withJoin (σ := Unit) (fun s => (⟨24, [], []⟩ : St)) (fun s => VC17_k1 K) (fun s h => ?_) (fun rest1 => ?_)
    · have h : VC17_k1 K := h
      unfold VC17_k1 at h
      refine thenQ_n ?_
      refine aw_seq ?_
      refine aw_region ?_
      refine awl_runp 1 [4] [] (ob := (True ∧ True)) (st' := (⟨24, [(4, [], .v (.c (.p (.int .i64) (0 : Int))))], []⟩ : St)) (by kernel_rfl) ⟨trivial, trivial⟩ ?_
      refine awl_nil ?_
      refine thenQ_n ?_
      refine aw_ret ?_
      exact retQ_r (σ := Int) (R := (fun y => [toV1 (.int .i64) y])) (ob := (True ∧ True)) (0 : Int) (by kernel_rfl) ⟨trivial, trivial⟩ h
    · refine aw_block ?_
      refine aw_loop (σ := Int) (fun s => (⟨24, [(0, [], .v (.c (.p (.int .i64) k))), (10, [], .v (.c (.p (.sl (.int .i64)) w))), (11, [], .v (.c (.p (.int .i64) (w.length : Int)))), (12, [], .v (.c (.p (.int .i64) s)))], []⟩ : St)) (fun s X => VC17_l1 k w K s X) (s0 := (0 : Int)) (fun v12 X1 h => ?_) h
      have h : VC17_l1 k w K v12 X1 := h
      unfold VC17_l1 at h
      refine aw_seq ?_
      refine aw_region ?_
      refine awl_runp 1 [0, 10, 11, 12, 13] [] (ob := (True ∧ True)) (st' := (⟨24, [(0, [], .v (.c (.p (.int .i64) k))), (10, [], .v (.c (.p (.sl (.int .i64)) w))), (11, [], .v (.c (.p (.int .i64) (w.length : Int)))), (12, [], .v (.c (.p (.int .i64) v12))), (13, [], .v (.c (.p .bool (decide (v12 < (w.length : Int))))))], []⟩ : St)) (by kernel_rfl) ⟨trivial, trivial⟩ ?_
      refine awl_nil ?_
      refine thenQ_n ?_
      refine aw_seq ?_
      refine aw_cond (b := (decide (v12 < (w.length : Int)))) (by kernel_rfl) (fun hb => ?_) (fun hb => ?_)
      · have h := h.1 hb
        refine aw_skip ?_
        refine thenQ_n ?_
        refine aw_seq ?_
        refine aw_block ?_
        refine aw_seq ?_
        refine aw_region ?_
        obtain ⟨o1, h⟩ := h
        refine awl_runp 3 [0, 6, 10, 11, 12] [] (ob := (inIdx v12 w.length ∧ True ∧ True ∧ True)) (st' := (⟨24, [(0, [], .v (.c (.p (.int .i64) k))), (6, [], .v (.c (.p (.int .i64) (w.getD (v12).toNat (0 : Int))))), (10, [], .v (.c (.p (.sl (.int .i64)) w))), (11, [], .v (.c (.p (.int .i64) (w.length : Int)))), (12, [], .v (.c (.p (.int .i64) v12)))], []⟩ : St)) (by kernel_rfl) ⟨o1, trivial, trivial, trivial⟩ ?_
        refine awl_nil ?_
        refine thenQ_n ?_
        refine aw_seq ?_
        refine aw_region ?_
        refine awl_runp 7 [0, 10, 11, 12, 22] [] (ob := (True ∧ True ∧ True ∧ ((decide ((w.getD (v12).toNat (0 : Int)) < (0 : Int))) = false → True) ∧ ((decide ((w.getD (v12).toNat (0 : Int)) < (0 : Int))) = false → True) ∧ ((decide ((w.getD (v12).toNat (0 : Int)) < (0 : Int))) = false → True) ∧ True ∧ True)) (st' := (⟨24, [(0, [], .v (.c (.p (.int .i64) k))), (10, [], .v (.c (.p (.sl (.int .i64)) w))), (11, [], .v (.c (.p (.int .i64) (w.length : Int)))), (12, [], .v (.c (.p (.int .i64) v12))), (22, [], .v (.c (.p .bool ((decide ((w.getD (v12).toNat (0 : Int)) < (0 : Int))) || (decide (k ≤ (w.getD (v12).toNat (0 : Int))))))))], []⟩ : St)) (by kernel_rfl) ⟨trivial, trivial, trivial, (fun _ => trivial), (fun _ => trivial), (fun _ => trivial), trivial, trivial⟩ ?_
        refine awl_nil ?_
        refine thenQ_n ?_
        refine aw_cond (b := ((decide ((w.getD (v12).toNat (0 : Int)) < (0 : Int))) || (decide (k ≤ (w.getD (v12).toNat (0 : Int)))))) (by kernel_rfl) (fun hb => ?_) (fun hb => ?_)
        · have h := h.1 hb
          refine aw_seq ?_
          refine aw_region ?_
          refine awl_runp 1 [4] [] (ob := (True ∧ True)) (st' := (⟨24, [(4, [], .v (.c (.p (.int .i64) (2 : Int))))], []⟩ : St)) (by kernel_rfl) ⟨trivial, trivial⟩ ?_
          refine awl_nil ?_
          refine thenQ_n ?_
          refine aw_ret ?_
          refine blockQ_r ?_
          refine thenQ_r ?_
          refine thenQ_r ?_
          refine blockQ_r ?_
          refine thenQ_r ?_
          exact retQ_r (σ := Int) (R := (fun y => [toV1 (.int .i64) y])) (ob := (True ∧ True)) (2 : Int) (by kernel_rfl) ⟨trivial, trivial⟩ h
        · have h := h.2 hb
          refine aw_skip ?_
          refine blockQ_n ?_
          refine thenQ_n ?_
          refine aw_region ?_
          obtain ⟨o1, h⟩ := h
          refine awl_runp 2 [0, 10, 11, 12] [] (ob := (InR (v12 + (1 : Int)) ∧ True ∧ True)) (st' := (⟨24, [(0, [], .v (.c (.p (.int .i64) k))), (10, [], .v (.c (.p (.sl (.int .i64)) w))), (11, [], .v (.c (.p (.int .i64) (w.length : Int)))), (12, [], .v (.c (.p (.int .i64) (v12 + (1 : Int)))))], []⟩ : St)) (by kernel_rfl) ⟨o1, trivial, trivial⟩ ?_
          refine awl_nil ?_
          exact thenQ_n ⟨(v12 + (1 : Int)), rfl, h⟩
      · have h := h.2 hb
        refine aw_conv [.prune [] []] (st' := (⟨24, [], []⟩ : St)) (by kernel_rfl) ?_
        refine aw_exit ?_
        refine thenQ_x ?_
        refine thenQ_x ?_
        refine blockQ_hit ?_
        exact rest1 () h

-- coppicer/coppicerkeep.good
def VC16 (m : (Int × (Int × ((List (List Int)) × (Int × Int))))) (w : (List Int)) (K : Bool → Prop) : Prop :=
  VC26 m (fun (ret6v : Int) => gcall (α := Int) (decide (ret6v = (0 : Int))) (VC17 m.2.1 w) (0 : Int) (fun (ret12v : Int) => K ((decide (ret6v = (0 : Int))) && (decide (ret12v = (0 : Int))))))

set_option maxHeartbeats 4000000 in
theorem link16 (m : (Int × (Int × ((List (List Int)) × (Int × Int))))) (w : (List Int)) (K : Bool → Prop) (h : VC16 m w K) : ACalls Try.prog 16 [toV1 (.pr (.int .i64) (.pr (.int .i64) (.pr (.sl (.sl (.int .i64))) (.pr (.int .i64) (.int .u32))))) m, toV1 (.sl (.int .i64)) w] (fun res => ∃ y, res = (fun y => [toV1 .bool y]) y ∧ K y) := by
  refine acalls_of_aw [.bool] [.t 4] Try.func16 rfl rfl rfl ?_
  unfold VC16 at h
  refine aw_seq ?_
  refine aw_region ?_
  refine awl_runp 2 [1, 2] [2] (ob := (True ∧ True ∧ True)) (st' := (⟨15, [(1, [], .v (.c (.p (.sl (.int .i64)) w))), (2, [], .v (.c (.ptr 2 0)))], [(2, [], .box [.p (.int .i64) m.1, .p (.int .i64) m.2.1, .p (.sl (.sl (.int .i64))) m.2.2.1, .p (.int .i64) m.2.2.2.1, .p (.int .u32) m.2.2.2.2])]⟩ : St)) (by kernel_rfl) ⟨trivial, trivial, trivial⟩ ?_
  refine awl_nil ?_
  refine thenQ_n ?_
  refine aw_seq ?_
  refine aw_region ?_
  refine awl_runp 1 [1, 2, 5] [2] (ob := (True ∧ True)) (st' := (⟨15, [(1, [], .v (.c (.p (.sl (.int .i64)) w))), (2, [], .v (.c (.ptr 2 0))), (5, [], .v (.agg [.p (.int .i64) m.1, .p (.int .i64) m.2.1, .p (.sl (.sl (.int .i64))) m.2.2.1, .p (.int .i64) m.2.2.2.1, .p (.int .u32) m.2.2.2.2]))], [(2, [], .box [.p (.int .i64) m.1, .p (.int .i64) m.2.1, .p (.sl (.sl (.int .i64))) m.2.2.1, .p (.int .i64) m.2.2.2.1, .p (.int .u32) m.2.2.2.2])]⟩ : St)) (by kernel_rfl) ⟨trivial, trivial⟩ ?_
  refine awl_callk (p := []) (l := [toV1 (.pr (.int .i64) (.pr (.int .i64) (.pr (.sl (.sl (.int .i64))) (.pr (.int .i64) (.int .u32))))) m]) (cl := []) false [.d (.pr (.int .i64) (.pr (.int .i64) (.pr (.sl (.sl (.int .i64))) (.pr (.int .i64) (.int .u32)))))] [1, 2, 6] [2] (fun (ret6v : Int) => gcall (α := Int) (decide (ret6v = (0 : Int))) (VC17 m.2.1 w) (0 : Int) (fun (ret12v : Int) => K ((decide (ret6v = (0 : Int))) && (decide (ret12v = (0 : Int)))))) (fun ret6v => [toV1 (.int .i64) ret6v]) (fun ret6v => (⟨15, [(1, [], .v (.c (.p (.sl (.int .i64)) w))), (2, [], .v (.c (.ptr 2 0))), (6, [], .v (.c (.p (.int .i64) ret6v)))], [(2, [], .box [.p (.int .i64) m.1, .p (.int .i64) m.2.1, .p (.sl (.sl (.int .i64))) m.2.2.1, .p (.int .i64) m.2.2.2.1, .p (.int .u32) m.2.2.2.2])]⟩ : St)) (by kernel_rfl) rfl (by kernel_rfl) rfl (by kernel_rfl) Try.call26 (by kernel_rfl) (fun ret6v => by kernel_rfl) (fun e => by cases e) (fun hg => link26 m _ h) (fun hg => noF hg) (fun ret6v h => ?_)
  have h : gcall (α := Int) (decide (ret6v = (0 : Int))) (VC17 m.2.1 w) (0 : Int) (fun (ret12v : Int) => K ((decide (ret6v = (0 : Int))) && (decide (ret12v = (0 : Int))))) := h
  refine awl_runp 5 [8, 10, 11] [] (ob := (True ∧ True ∧ ((decide (ret6v = (0 : Int))) = true → True) ∧ ((decide (ret6v = (0 : Int))) = true → True) ∧ ((decide (ret6v = (0 : Int))) = true → True) ∧ True)) (st' := (⟨15, [(8, [], .v (.c (.p .bool (decide (ret6v = (0 : Int)))))), (10, [(8, true)], .v (.c (.p (.int .i64) m.2.1))), (11, [(8, true)], .v (.c (.p (.sl (.int .i64)) w)))], []⟩ : St)) (by kernel_rfl) ⟨trivial, trivial, (fun _ => trivial), (fun _ => trivial), (fun _ => trivial), trivial⟩ ?_
  refine awl_callk (p := [(8, true)]) (l := [toV1 (.int .i64) m.2.1, toV1 (.sl (.int .i64)) w]) (cl := []) false [.d (.int .i64), .d (.sl (.int .i64))] [8, 12] [] (fun (ret12v : Int) => K ((decide (ret6v = (0 : Int))) && (decide (ret12v = (0 : Int))))) (fun ret12v => [toV1 (.int .i64) ret12v]) (fun ret12v => (⟨15, [(8, [], .v (.c (.p .bool (decide (ret6v = (0 : Int)))))), (12, [(8, true)], .v (.c (.p (.int .i64) ret12v)))], []⟩ : St)) (by kernel_rfl) rfl (by kernel_rfl) rfl (by kernel_rfl) Try.call17 (by kernel_rfl) (fun ret12v => by kernel_rfl) (fun e => by cases e) (fun hg => link17 m.2.1 w _ (by have := gcall_T h (show (decide (ret6v = (0 : Int))) = true from hg); exact this)) (fun hg => ⟨(0 : Int), by have := gcall_F h (show (decide (ret6v = (0 : Int))) = false from hg); exact this⟩) (fun ret12v h => ?_)
  have h : K ((decide (ret6v = (0 : Int))) && (decide (ret12v = (0 : Int)))) := h
  refine awl_runp 3 [4] [] (ob := (((decide (ret6v = (0 : Int))) = true → True) ∧ True ∧ True ∧ True)) (st' := (⟨15, [(4, [], .v (.c (.p .bool ((decide (ret6v = (0 : Int))) && (decide (ret12v = (0 : Int)))))))], []⟩ : St)) (by kernel_rfl) ⟨(fun _ => trivial), trivial, trivial, trivial⟩ ?_
  refine awl_nil ?_
  refine thenQ_n ?_
  refine aw_ret ?_
  exact retQ_r (σ := Bool) (R := (fun y => [toV1 .bool y])) (ob := (True ∧ True)) ((decide (ret6v = (0 : Int))) && (decide (ret12v = (0 : Int)))) (by kernel_rfl) ⟨trivial, trivial⟩ h

-- coppicer/coppicerref.Again
def VC39_k1 (K : (List Int) → Prop) (out : (List Int)) : Prop :=
  K out

def VC39_l1 (w : (List Int)) (n : Int) (K : (List Int) → Prop) (i : Int) (out : (List Int)) (X1 : Int × (List Int) → Prop) : Prop :=
  (((decide (i < n)) = true → (roomN (out.length + w.length) ∧ (InR (i + (1 : Int)) ∧ X1 ((i + (1 : Int)), (out ++ w))))) ∧ ((decide (i < n)) = false → VC39_k1 K out))

def VC39 (w : (List Int)) (n : Int) (K : (List Int) → Prop) : Prop :=
  Loop (σ := Int × (List Int)) (fun s X => VC39_l1 w n K s.1 s.2 X) ((0 : Int), ([] : List Int))

set_option maxHeartbeats 4000000 in
theorem link39 (w : (List Int)) (n : Int) (K : (List Int) → Prop) (h : VC39 w n K) : ACalls Try.prog 39 [toV1 (.sl (.int .i64)) w, toV1 (.int .i64) n] (fun res => ∃ y, res = (fun y => [toV1 (.sl (.int .i64)) y]) y ∧ K y) := by
  refine acalls_of_aw [(.sl (.int .i64))] [.t 4] Try.func39 rfl rfl rfl ?_
  unfold VC39 at h
  refine aw_seq ?_
  refine aw_region ?_
  refine awl_runp 1 [0, 1] [] (ob := (True ∧ True)) (st' := (⟨16, [(0, [], .v (.c (.p (.sl (.int .i64)) w))), (1, [], .v (.c (.p (.int .i64) n)))], []⟩ : St)) (by kernel_rfl) ⟨trivial, trivial⟩ ?_
  refine awl_nil ?_
  refine thenQ_n ?_
  refine aw_seq ?_
  refine aw_region ?_
  refine awl_runp 1 [0, 1, 5] [] (ob := (True ∧ True)) (st' := (⟨16, [(0, [], .v (.c (.p (.sl (.int .i64)) w))), (1, [], .v (.c (.p (.int .i64) n))), (5, [], .v (.c (.nils)))], []⟩ : St)) (by kernel_rfl) ⟨trivial, trivial⟩ ?_
  refine awl_nil ?_
  refine thenQ_n ?_
  refine aw_seq ?_
  refine aw_seq ?_
  refine aw_region ?_
  refine awl_runp 1 [0, 1, 5, 6] [] (ob := (True ∧ True)) (st' := (⟨16, [(0, [], .v (.c (.p (.sl (.int .i64)) w))), (1, [], .v (.c (.p (.int .i64) n))), (5, [], .v (.c (.nils))), (6, [], .v (.c (.p (.int .i64) (0 : Int))))], []⟩ : St)) (by kernel_rfl) ⟨trivial, trivial⟩ ?_
  refine awl_nil ?_
  refine thenQ_n ?_
  refine withJoin (σ := (List Int)) (fun s => (⟨16, [(5, [], .v (.c (.own 5005)))], [(5005, [], .arr 3 (.int .i64) s)]⟩ : St)) (fun s => VC39_k1 K s) (fun out h => ?_) (fun rest1 => ?_)
  · have h : VC39_k1 K out := h
    unfold VC39_k1 at h
    refine thenQ_n ?_
    refine aw_seq ?_
    refine aw_region ?_
    refine awl_runp 2 [4] [5005] (ob := (True ∧ True ∧ True)) (st' := (⟨16, [(4, [], .v (.c (.own 5005)))], [(5005, [], .arr 3 (.int .i64) out)]⟩ : St)) (by kernel_rfl) ⟨trivial, trivial, trivial⟩ ?_
    refine awl_nil ?_
    refine thenQ_n ?_
    refine aw_conv [.freeze 5005] (st' := (⟨16, [(4, [], .v (.c (.p (.sl (.int .i64)) out)))], []⟩ : St)) (by kernel_rfl) ?_
    refine aw_ret ?_
    exact retQ_r (σ := (List Int)) (R := (fun y => [toV1 (.sl (.int .i64)) y])) (ob := (True ∧ True)) out (by kernel_rfl) ⟨trivial, trivial⟩ h
  · refine aw_block ?_
    refine aw_conv [.nilOwn 5 5005 3 (.int .i64), .prune [0, 1, 5, 6] [5005]] (st' := (⟨16, [(0, [], .v (.c (.p (.sl (.int .i64)) w))), (1, [], .v (.c (.p (.int .i64) n))), (5, [], .v (.c (.own 5005))), (6, [], .v (.c (.p (.int .i64) (0 : Int))))], [(5005, [], .arr 3 (.int .i64) ([] : List Int))]⟩ : St)) (by kernel_rfl) ?_
    refine aw_loop (σ := Int × (List Int)) (fun s => (⟨16, [(0, [], .v (.c (.p (.sl (.int .i64)) w))), (1, [], .v (.c (.p (.int .i64) n))), (5, [], .v (.c (.own 5005))), (6, [], .v (.c (.p (.int .i64) s.1)))], [(5005, [], .arr 3 (.int .i64) s.2)]⟩ : St)) (fun s X => VC39_l1 w n K s.1 s.2 X) (s0 := ((0 : Int), ([] : List Int))) (fun s X1 h => ?_) h
    obtain ⟨i, out⟩ := s
    have h : VC39_l1 w n K i out X1 := h
    unfold VC39_l1 at h
    refine aw_seq ?_
    refine aw_seq ?_
    refine aw_region ?_
    refine awl_runp 3 [0, 1, 5, 6, 9] [5005] (ob := (True ∧ True ∧ True ∧ True)) (st' := (⟨16, [(0, [], .v (.c (.p (.sl (.int .i64)) w))), (1, [], .v (.c (.p (.int .i64) n))), (5, [], .v (.c (.own 5005))), (6, [], .v (.c (.p (.int .i64) i))), (9, [], .v (.c (.p .bool (decide (i < n)))))], [(5005, [], .arr 3 (.int .i64) out)]⟩ : St)) (by kernel_rfl) ⟨trivial, trivial, trivial, trivial⟩ ?_
    refine awl_nil ?_
    refine thenQ_n ?_
    refine aw_cond (b := (decide (i < n))) (by kernel_rfl) (fun hb => ?_) (fun hb => ?_)
    · have h := h.1 hb
      refine aw_skip ?_
      refine thenQ_n ?_
      refine aw_seq ?_
      refine aw_block ?_
      refine aw_region ?_
      obtain ⟨o1, h⟩ := h
      refine awl_runp 4 [0, 1, 5, 6] [14] (ob := (True ∧ True ∧ roomN (out.length + w.length) ∧ True ∧ True)) (st' := (⟨16, [(0, [], .v (.c (.p (.sl (.int .i64)) w))), (1, [], .v (.c (.p (.int .i64) n))), (5, [], .v (.c (.own 14))), (6, [], .v (.c (.p (.int .i64) i)))], [(14, [], .arr 3 (.int .i64) (out ++ w))]⟩ : St)) (by kernel_rfl) ⟨trivial, trivial, o1, trivial, trivial⟩ ?_
      refine awl_nil ?_
      refine blockQ_n ?_
      refine thenQ_n ?_
      refine aw_region ?_
      obtain ⟨o1, h⟩ := h
      refine awl_runp 3 [0, 1, 5, 6] [14] (ob := (True ∧ InR (i + (1 : Int)) ∧ True ∧ True)) (st' := (⟨16, [(0, [], .v (.c (.p (.sl (.int .i64)) w))), (1, [], .v (.c (.p (.int .i64) n))), (5, [], .v (.c (.own 14))), (6, [], .v (.c (.p (.int .i64) (i + (1 : Int)))))], [(14, [], .arr 3 (.int .i64) (out ++ w))]⟩ : St)) (by kernel_rfl) ⟨trivial, o1, trivial, trivial⟩ ?_
      refine awl_conv [.ren 14 20014, .ren 20014 5005] (st' := (⟨16, [(0, [], .v (.c (.p (.sl (.int .i64)) w))), (1, [], .v (.c (.p (.int .i64) n))), (5, [], .v (.c (.own 5005))), (6, [], .v (.c (.p (.int .i64) (i + (1 : Int)))))], [(5005, [], .arr 3 (.int .i64) (out ++ w))]⟩ : St)) (by kernel_rfl) ?_
      refine awl_nil ?_
      exact thenQ_n ⟨((i + (1 : Int)), (out ++ w)), rfl, h⟩
    · have h := h.2 hb
      refine aw_conv [.prune [5] [5005]] (st' := (⟨16, [(5, [], .v (.c (.own 5005)))], [(5005, [], .arr 3 (.int .i64) out)]⟩ : St)) (by kernel_rfl) ?_
      refine aw_exit ?_
      refine thenQ_x ?_
      refine thenQ_x ?_
      refine blockQ_hit ?_
      exact rest1 out h

-- coppicer/machine.Word$1
def VC66 (sv : Int) (a1 : Int) (K : Bool → Prop) : Prop :=
  (InR (a1 - (1 : Int)) ∧ VC61 sv (0 : Int) (a1 - (1 : Int)) (fun (ret7v : Bool) => K (!ret7v)))

set_option maxHeartbeats 4000000 in
theorem link66 (sv : Int) (a1 : Int) (K : Bool → Prop) (h : VC66 sv a1 K) : ACalls Try.prog 66 [toV1 (.int .i64) sv, .c (.ad (.int .i64) a1)] (fun res => ∃ y, res = (fun y => [toV1 .bool y]) y ∧ K y) := by
  refine acalls_of_aw [.bool] [.t 3] Try.func66 rfl rfl rfl ?_
  unfold VC66 at h
  refine aw_seq ?_
  refine aw_region ?_
  refine awl_runp 1 [0, 1] [] (ob := (True ∧ True)) (st' := (⟨9, [(0, [], .v (.c (.p (.int .i64) sv))), (1, [], .v (.c (.ad (.int .i64) a1)))], []⟩ : St)) (by kernel_rfl) ⟨trivial, trivial⟩ ?_
  refine awl_nil ?_
  refine thenQ_n ?_
  refine aw_seq ?_
  refine aw_region ?_
  obtain ⟨o1, h⟩ := h
  refine awl_runp 3 [4, 6] [] (ob := (True ∧ True ∧ InR (a1 - (1 : Int)) ∧ True)) (st' := (⟨9, [(4, [], .v (.c (.p (.int .i64) sv))), (6, [], .v (.c (.p (.int .i64) (a1 - (1 : Int)))))], []⟩ : St)) (by kernel_rfl) ⟨trivial, trivial, o1, trivial⟩ ?_
  refine awl_callk (p := []) (l := [toV1 (.int .i64) sv, toV1 (.int .i64) (0 : Int), toV1 (.int .i64) (a1 - (1 : Int))]) (cl := []) false [.d (.int .i64), .d (.int .i64), .d (.int .i64)] [7] [] (fun (ret7v : Bool) => K (!ret7v)) (fun ret7v => [toV1 .bool ret7v]) (fun ret7v => (⟨9, [(7, [], .v (.c (.p .bool ret7v)))], []⟩ : St)) (by kernel_rfl) rfl (by kernel_rfl) rfl (by kernel_rfl) Try.call61 (by kernel_rfl) (fun ret7v => by kernel_rfl) (fun e => by cases e) (fun hg => link61 sv (0 : Int) (a1 - (1 : Int)) _ h) (fun hg => noF hg) (fun ret7v h => ?_)
  have h : K (!ret7v) := h
  refine awl_runp 2 [3] [] (ob := (True ∧ True ∧ True)) (st' := (⟨9, [(3, [], .v (.c (.p .bool (!ret7v))))], []⟩ : St)) (by kernel_rfl) ⟨trivial, trivial, trivial⟩ ?_
  refine awl_nil ?_
  refine thenQ_n ?_
  refine aw_ret ?_
  exact retQ_r (σ := Bool) (R := (fun y => [toV1 .bool y])) (ob := (True ∧ True)) (!ret7v) (by kernel_rfl) ⟨trivial, trivial⟩ h

-- slices.IndexFunc[[]int,int]
def VC73_k1 (K : Int → Prop) : Prop :=
  K (-1 : Int)

def VC73_l1 (sv : (List Int)) (F1 : Int → (Bool → Prop) → Prop) (K : Int → Prop) (v8 : Int) (X1 : Int → Prop) : Prop :=
  (((decide (v8 < (sv.length : Int))) = true → (inIdx v8 sv.length ∧ F1 (sv.getD (v8).toNat (0 : Int)) (fun (ret16v : Bool) => ((ret16v = true → K v8) ∧ (ret16v = false → (InR (v8 + (1 : Int)) ∧ X1 (v8 + (1 : Int)))))))) ∧ ((decide (v8 < (sv.length : Int))) = false → VC73_k1 K))

def VC73 (sv : (List Int)) (F1 : Int → (Bool → Prop) → Prop) (K : Int → Prop) : Prop :=
  Loop (σ := Int) (fun s X => VC73_l1 sv F1 K s X) (0 : Int)

set_option maxHeartbeats 4000000 in
theorem link73 (sv : (List Int)) (fv1 : FuncId) (cv1 : List Dat) (F1 : Int → (Bool → Prop) → Prop) (hF1 : FnIs Try.prog fv1 cv1 (fun (x : Int) => [toV1 (.int .i64) x]) (fun (y : Bool) => [toV1 .bool y]) F1) (K : Int → Prop) (h : VC73 sv F1 K) : ACalls Try.prog 73 [toV1 (.sl (.int .i64)) sv, .c (.fn fv1 cv1)] (fun res => ∃ y, res = (fun y => [toV1 (.int .i64) y]) y ∧ K y) := by
  refine acalls_of_aw [(.int .i64)] [.t 4] Try.func73 rfl rfl rfl ?_
  unfold VC73 at h
  refine aw_seq ?_
  refine aw_region ?_
  refine awl_runp 1 [0, 1] [] (ob := (True ∧ True)) (st' := (⟨19, [(0, [], .v (.c (.p (.sl (.int .i64)) sv))), (1, [], .v (.c (.fn fv1 cv1)))], []⟩ : St)) (by kernel_rfl) ⟨trivial, trivial⟩ ?_
  refine awl_nil ?_
  refine thenQ_n ?_
  refine aw_seq ?_
  refine aw_seq ?_
  refine aw_region ?_
  refine awl_runp 3 [0, 1, 7, 8] [] (ob := (True ∧ True ∧ True ∧ True)) (st' := (⟨19, [(0, [], .v (.c (.p (.sl (.int .i64)) sv))), (1, [], .v (.c (.fn fv1 cv1))), (7, [], .v (.c (.p (.int .i64) (sv.length : Int)))), (8, [], .v (.c (.p (.int .i64) (0 : Int))))], []⟩ : St)) (by kernel_rfl) ⟨trivial, trivial, trivial, trivial⟩ ?_
  refine awl_nil ?_
  refine thenQ_n ?_
  refine withJoin (σ := Unit) (fun s => (⟨19, [], []⟩ : St)) (fun s => VC73_k1 K) (fun s h => ?_) (fun rest1 => ?_)
  · have h : VC73_k1 K := h
    unfold VC73_k1 at h
    refine thenQ_n ?_
    refine aw_seq ?_
    refine aw_region ?_
    refine awl_runp 1 [4] [] (ob := (True ∧ True)) (st' := (⟨19, [(4, [], .v (.c (.p (.int .i64) (-1 : Int))))], []⟩ : St)) (by kernel_rfl) ⟨trivial, trivial⟩ ?_
    refine awl_nil ?_
    refine thenQ_n ?_
    refine aw_ret ?_
    exact retQ_r (σ := Int) (R := (fun y => [toV1 (.int .i64) y])) (ob := (True ∧ True)) (-1 : Int) (by kernel_rfl) ⟨trivial, trivial⟩ h
  · refine aw_block ?_
    refine aw_loop (σ := Int) (fun s => (⟨19, [(0, [], .v (.c (.p (.sl (.int .i64)) sv))), (1, [], .v (.c (.fn fv1 cv1))), (7, [], .v (.c (.p (.int .i64) (sv.length : Int)))), (8, [], .v (.c (.p (.int .i64) s)))], []⟩ : St)) (fun s X => VC73_l1 sv F1 K s X) (s0 := (0 : Int)) (fun v8 X1 h => ?_) h
    have h : VC73_l1 sv F1 K v8 X1 := h
    unfold VC73_l1 at h
    refine aw_seq ?_
    refine aw_region ?_
    refine awl_runp 1 [0, 1, 7, 8, 9] [] (ob := (True ∧ True)) (st' := (⟨19, [(0, [], .v (.c (.p (.sl (.int .i64)) sv))), (1, [], .v (.c (.fn fv1 cv1))), (7, [], .v (.c (.p (.int .i64) (sv.length : Int)))), (8, [], .v (.c (.p (.int .i64) v8))), (9, [], .v (.c (.p .bool (decide (v8 < (sv.length : Int))))))], []⟩ : St)) (by kernel_rfl) ⟨trivial, trivial⟩ ?_
    refine awl_nil ?_
    refine thenQ_n ?_
    refine aw_seq ?_
    refine aw_cond (b := (decide (v8 < (sv.length : Int)))) (by kernel_rfl) (fun hb => ?_) (fun hb => ?_)
    · have h := h.1 hb
      refine aw_skip ?_
      refine thenQ_n ?_
      refine aw_seq ?_
      refine aw_block ?_
      refine aw_seq ?_
      refine aw_region ?_
      refine awl_runp 2 [0, 1, 5, 7, 8] [] (ob := (True ∧ True ∧ True)) (st' := (⟨19, [(0, [], .v (.c (.p (.sl (.int .i64)) sv))), (1, [], .v (.c (.fn fv1 cv1))), (5, [], .v (.c (.p (.int .i64) v8))), (7, [], .v (.c (.p (.int .i64) (sv.length : Int)))), (8, [], .v (.c (.p (.int .i64) v8)))], []⟩ : St)) (by kernel_rfl) ⟨trivial, trivial, trivial⟩ ?_
      refine awl_nil ?_
      refine thenQ_n ?_
      refine aw_seq ?_
      refine aw_region ?_
      obtain ⟨o1, h⟩ := h
      refine awl_runp 5 [0, 1, 5, 7, 8, 11, 15] [] (ob := (True ∧ True ∧ True ∧ inIdx v8 sv.length ∧ True ∧ True)) (st' := (⟨19, [(0, [], .v (.c (.p (.sl (.int .i64)) sv))), (1, [], .v (.c (.fn fv1 cv1))), (5, [], .v (.c (.p (.int .i64) v8))), (7, [], .v (.c (.p (.int .i64) (sv.length : Int)))), (8, [], .v (.c (.p (.int .i64) v8))), (11, [], .v (.c (.fn fv1 cv1))), (15, [], .v (.c (.p (.int .i64) (sv.getD (v8).toNat (0 : Int)))))], []⟩ : St)) (by kernel_rfl) ⟨trivial, trivial, trivial, o1, trivial, trivial⟩ ?_
      refine awl_callk (p := []) (l := [toV1 (.int .i64) (sv.getD (v8).toNat (0 : Int))]) false [.d (.int .i64)] [0, 1, 5, 7, 8, 16] [] (fun (ret16v : Bool) => ((ret16v = true → K v8) ∧ (ret16v = false → (InR (v8 + (1 : Int)) ∧ X1 (v8 + (1 : Int)))))) (fun ret16v => [toV1 .bool ret16v]) (fun ret16v => (⟨19, [(0, [], .v (.c (.p (.sl (.int .i64)) sv))), (1, [], .v (.c (.fn fv1 cv1))), (5, [], .v (.c (.p (.int .i64) v8))), (7, [], .v (.c (.p (.int .i64) (sv.length : Int)))), (8, [], .v (.c (.p (.int .i64) v8))), (16, [], .v (.c (.p .bool ret16v)))], []⟩ : St)) (by kernel_rfl) rfl (by kernel_rfl) rfl (by kernel_rfl) hF1.1 (by kernel_rfl) (fun ret16v => by kernel_rfl) (fun e => by cases e) (fun hg => hF1.2 (sv.getD (v8).toNat (0 : Int)) _ h) (fun hg => noF hg) (fun ret16v h => ?_)
      have h : ((ret16v = true → K v8) ∧ (ret16v = false → (InR (v8 + (1 : Int)) ∧ X1 (v8 + (1 : Int))))) := h
      refine awl_nil ?_
      refine thenQ_n ?_
      refine aw_cond (b := ret16v) (by kernel_rfl) (fun hb => ?_) (fun hb => ?_)
      · have h := h.1 hb
        refine aw_seq ?_
        refine aw_region ?_
        refine awl_runp 2 [4] [] (ob := (True ∧ True ∧ True)) (st' := (⟨19, [(4, [], .v (.c (.p (.int .i64) v8)))], []⟩ : St)) (by kernel_rfl) ⟨trivial, trivial, trivial⟩ ?_
        refine awl_nil ?_
        refine thenQ_n ?_
        refine aw_ret ?_
        refine blockQ_r ?_
        refine thenQ_r ?_
        refine thenQ_r ?_
        refine blockQ_r ?_
        refine thenQ_r ?_
        exact retQ_r (σ := Int) (R := (fun y => [toV1 (.int .i64) y])) (ob := (True ∧ True)) v8 (by kernel_rfl) ⟨trivial, trivial⟩ h
      · have h := h.2 hb
        refine aw_skip ?_
        refine blockQ_n ?_
        refine thenQ_n ?_
        refine aw_region ?_
        obtain ⟨o1, h⟩ := h
        refine awl_runp 2 [0, 1, 7, 8] [] (ob := (InR (v8 + (1 : Int)) ∧ True ∧ True)) (st' := (⟨19, [(0, [], .v (.c (.p (.sl (.int .i64)) sv))), (1, [], .v (.c (.fn fv1 cv1))), (7, [], .v (.c (.p (.int .i64) (sv.length : Int)))), (8, [], .v (.c (.p (.int .i64) (v8 + (1 : Int)))))], []⟩ : St)) (by kernel_rfl) ⟨o1, trivial, trivial⟩ ?_
        refine awl_nil ?_
        exact thenQ_n ⟨(v8 + (1 : Int)), rfl, h⟩
    · have h := h.2 hb
      refine aw_conv [.prune [] []] (st' := (⟨19, [], []⟩ : St)) (by kernel_rfl) ?_
      refine aw_exit ?_
      refine thenQ_x ?_
      refine thenQ_x ?_
      refine blockQ_hit ?_
      exact rest1 () h

-- slices.ContainsFunc[[]int,int]
def VC65 (sv : (List Int)) (F1 : Int → (Bool → Prop) → Prop) (K : Bool → Prop) : Prop :=
  VC73 sv F1 (fun (ret7v : Int) => K (decide ((0 : Int) ≤ ret7v)))

set_option maxHeartbeats 4000000 in
theorem link65 (sv : (List Int)) (fv1 : FuncId) (cv1 : List Dat) (F1 : Int → (Bool → Prop) → Prop) (hF1 : FnIs Try.prog fv1 cv1 (fun (x : Int) => [toV1 (.int .i64) x]) (fun (y : Bool) => [toV1 .bool y]) F1) (K : Bool → Prop) (h : VC65 sv F1 K) : ACalls Try.prog 65 [toV1 (.sl (.int .i64)) sv, .c (.fn fv1 cv1)] (fun res => ∃ y, res = (fun y => [toV1 .bool y]) y ∧ K y) := by
  refine acalls_of_aw [.bool] [.t 4] Try.func65 rfl rfl rfl ?_
  unfold VC65 at h
  refine aw_seq ?_
  refine aw_region ?_
  refine awl_runp 1 [0, 1] [] (ob := (True ∧ True)) (st' := (⟨9, [(0, [], .v (.c (.p (.sl (.int .i64)) sv))), (1, [], .v (.c (.fn fv1 cv1)))], []⟩ : St)) (by kernel_rfl) ⟨trivial, trivial⟩ ?_
  refine awl_nil ?_
  refine thenQ_n ?_
  refine aw_seq ?_
  refine aw_region ?_
  refine awl_runp 2 [5, 6] [] (ob := (True ∧ True ∧ True)) (st' := (⟨9, [(5, [], .v (.c (.p (.sl (.int .i64)) sv))), (6, [], .v (.c (.fn fv1 cv1)))], []⟩ : St)) (by kernel_rfl) ⟨trivial, trivial, trivial⟩ ?_
  refine awl_callk (p := []) (l := [toV1 (.sl (.int .i64)) sv, .c (.fn fv1 cv1)]) (cl := []) false [.d (.sl (.int .i64)), .fn] [7] [] (fun (ret7v : Int) => K (decide ((0 : Int) ≤ ret7v))) (fun ret7v => [toV1 (.int .i64) ret7v]) (fun ret7v => (⟨9, [(7, [], .v (.c (.p (.int .i64) ret7v)))], []⟩ : St)) (by kernel_rfl) rfl (by kernel_rfl) rfl (by kernel_rfl) Try.call73 (by kernel_rfl) (fun ret7v => by kernel_rfl) (fun e => by cases e) (fun hg => link73 sv fv1 cv1 F1 hF1 _ h) (fun hg => noF hg) (fun ret7v h => ?_)
  have h : K (decide ((0 : Int) ≤ ret7v)) := h
  refine awl_runp 2 [4] [] (ob := (True ∧ True ∧ True)) (st' := (⟨9, [(4, [], .v (.c (.p .bool (decide ((0 : Int) ≤ ret7v)))))], []⟩ : St)) (by kernel_rfl) ⟨trivial, trivial, trivial⟩ ?_
  refine awl_nil ?_
  refine thenQ_n ?_
  refine aw_ret ?_
  exact retQ_r (σ := Bool) (R := (fun y => [toV1 .bool y])) (ob := (True ∧ True)) (decide ((0 : Int) ≤ ret7v)) (by kernel_rfl) ⟨trivial, trivial⟩ h

-- coppicer/machine.Word
def VC41 (k : Int) (w : (List Int)) (K : Int → Prop) : Prop :=
  (((decide ((12 : Int) < (w.length : Int))) = true → K (1 : Int)) ∧ ((decide ((12 : Int) < (w.length : Int))) = false → VC65 w (fun (x : Int) (K : Bool → Prop) => VC66 x k K) (fun (ret10v : Bool) => ((ret10v = true → K (2 : Int)) ∧ (ret10v = false → K (0 : Int))))))

set_option maxHeartbeats 4000000 in
theorem link41 (k : Int) (w : (List Int)) (K : Int → Prop) (h : VC41 k w K) : ACalls Try.prog 41 [toV1 (.int .i64) k, toV1 (.sl (.int .i64)) w] (fun res => ∃ y, res = (fun y => [toV1 (.int .i64) y]) y ∧ K y) := by
  refine acalls_of_aw [(.int .i64)] [.t 4] Try.func41 rfl rfl rfl ?_
  unfold VC41 at h
  refine aw_seq ?_
  refine aw_region ?_
  refine awl_runp 2 [1, 2] [2] (ob := (True ∧ True ∧ True)) (st' := (⟨11, [(1, [], .v (.c (.p (.sl (.int .i64)) w))), (2, [], .v (.c (.ptr 2 0)))], [(2, [], .box [.p (.int .i64) k])]⟩ : St)) (by kernel_rfl) ⟨trivial, trivial, trivial⟩ ?_
  refine awl_nil ?_
  refine thenQ_n ?_
  refine aw_seq ?_
  refine aw_seq ?_
  refine aw_region ?_
  refine awl_runp 3 [1, 2, 7] [2] (ob := (True ∧ True ∧ True ∧ True)) (st' := (⟨11, [(1, [], .v (.c (.p (.sl (.int .i64)) w))), (2, [], .v (.c (.ptr 2 0))), (7, [], .v (.c (.p .bool (decide ((12 : Int) < (w.length : Int))))))], [(2, [], .box [.p (.int .i64) k])]⟩ : St)) (by kernel_rfl) ⟨trivial, trivial, trivial, trivial⟩ ?_
  refine awl_nil ?_
  refine thenQ_n ?_
  refine aw_cond (b := (decide ((12 : Int) < (w.length : Int)))) (by kernel_rfl) (fun hb => ?_) (fun hb => ?_)
  · have h := h.1 hb
    refine aw_seq ?_
    refine aw_region ?_
    refine awl_runp 1 [4] [] (ob := (True ∧ True)) (st' := (⟨11, [(4, [], .v (.c (.p (.int .i64) (1 : Int))))], []⟩ : St)) (by kernel_rfl) ⟨trivial, trivial⟩ ?_
    refine awl_nil ?_
    refine thenQ_n ?_
    refine aw_ret ?_
    refine thenQ_r ?_
    exact retQ_r (σ := Int) (R := (fun y => [toV1 (.int .i64) y])) (ob := (True ∧ True)) (1 : Int) (by kernel_rfl) ⟨trivial, trivial⟩ h
  · have h := h.2 hb
    refine aw_skip ?_
    refine thenQ_n ?_
    refine aw_seq ?_
    refine aw_seq ?_
    refine aw_region ?_
    refine awl_runp 1 [2, 8] [2] (ob := (True ∧ True)) (st' := (⟨11, [(2, [], .v (.c (.ptr 2 0))), (8, [], .v (.c (.p (.sl (.int .i64)) w)))], [(2, [], .box [.p (.int .i64) k])]⟩ : St)) (by kernel_rfl) ⟨trivial, trivial⟩ ?_
    refine awl_conv [.freezeB 2 (.int .i64)] (st' := (⟨11, [(2, [], .v (.c (.ad (.int .i64) k))), (8, [], .v (.c (.p (.sl (.int .i64)) w)))], []⟩ : St)) (by kernel_rfl) ?_
    refine awl_runp 1 [8, 9] [] (ob := (True ∧ True)) (st' := (⟨11, [(8, [], .v (.c (.p (.sl (.int .i64)) w))), (9, [], .v (.c (.fn 66 [(⟨(.int .i64), k⟩ : Dat)])))], []⟩ : St)) (by kernel_rfl) ⟨trivial, trivial⟩ ?_
    refine awl_callk (p := []) (l := [toV1 (.sl (.int .i64)) w, .c (.fn 66 [(⟨(.int .i64), k⟩ : Dat)])]) (cl := []) false [.d (.sl (.int .i64)), .fn] [10] [] (fun (ret10v : Bool) => ((ret10v = true → K (2 : Int)) ∧ (ret10v = false → K (0 : Int)))) (fun ret10v => [toV1 .bool ret10v]) (fun ret10v => (⟨11, [(10, [], .v (.c (.p .bool ret10v)))], []⟩ : St)) (by kernel_rfl) rfl (by kernel_rfl) rfl (by kernel_rfl) Try.call65 (by kernel_rfl) (fun ret10v => by kernel_rfl) (fun e => by cases e) (fun hg => link65 w 66 [(⟨(.int .i64), k⟩ : Dat)] (fun (x : Int) (K : Bool → Prop) => VC66 x k K) ⟨Try.call66, fun x K h => link66 x k K h⟩ _ h) (fun hg => noF hg) (fun ret10v h => ?_)
    have h : ((ret10v = true → K (2 : Int)) ∧ (ret10v = false → K (0 : Int))) := h
    refine awl_nil ?_
    refine thenQ_n ?_
    refine aw_cond (b := ret10v) (by kernel_rfl) (fun hb => ?_) (fun hb => ?_)
    · have h := h.1 hb
      refine aw_seq ?_
      refine aw_region ?_
      refine awl_runp 1 [4] [] (ob := (True ∧ True)) (st' := (⟨11, [(4, [], .v (.c (.p (.int .i64) (2 : Int))))], []⟩ : St)) (by kernel_rfl) ⟨trivial, trivial⟩ ?_
      refine awl_nil ?_
      refine thenQ_n ?_
      refine aw_ret ?_
      refine thenQ_r ?_
      exact retQ_r (σ := Int) (R := (fun y => [toV1 (.int .i64) y])) (ob := (True ∧ True)) (2 : Int) (by kernel_rfl) ⟨trivial, trivial⟩ h
    · have h := h.2 hb
      refine aw_skip ?_
      refine thenQ_n ?_
      refine aw_seq ?_
      refine aw_region ?_
      refine awl_runp 1 [4] [] (ob := (True ∧ True)) (st' := (⟨11, [(4, [], .v (.c (.p (.int .i64) (0 : Int))))], []⟩ : St)) (by kernel_rfl) ⟨trivial, trivial⟩ ?_
      refine awl_nil ?_
      refine thenQ_n ?_
      refine aw_ret ?_
      exact retQ_r (σ := Int) (R := (fun y => [toV1 (.int .i64) y])) (ob := (True ∧ True)) (0 : Int) (by kernel_rfl) ⟨trivial, trivial⟩ h

end Dec
