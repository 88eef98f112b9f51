/-
  Printed by dec2.py: of each function its plain demand, and that the demand gives the contract.
-/
import Derived.Test.YtfigkkmiallghaaGenZa
set_option linter.unusedVariables false
set_option linter.unusedSimpArgs false
set_option maxRecDepth 100000
namespace Dec
open Go Go.RowKit Go.Proofs

-- coppicer/net.Sure
def VC24_k1 (n : (Int × (Int × ((List (Int × (Int × Int))) × (Int × Int))))) (K : (Int × (Int × ((List (List Int)) × (Int × Int)))) × Int → Prop) (out : Int) (l21 : (List Int)) (l6142 : (List (List Int))) : Prop :=
  K (((l21.length : Int), (n.2.1, (l6142, ((0 : Int), out)))), (0 : Int))

def VC24_k3 (i : Int) (l6142 : (List (List Int))) (X1 : Int × Int × (List Int) × (List (List Int)) → Prop) (l212 : (List Int)) (row : (List Int)) (out2 : Int) : Prop :=
  (InR (i + (1 : Int)) ∧ X1 ((i + (1 : Int)), out2, l212, (l6142 ++ [row])))

def VC24_k2 (n : (Int × (Int × ((List (Int × (Int × Int))) × (Int × Int))))) (K : (Int × (Int × ((List (List Int)) × (Int × Int)))) × Int → Prop) (i : Int) (out : Int) (l6142 : (List (List Int))) (X1 : Int × Int × (List Int) × (List (List Int)) → Prop) (l212 : (List Int)) (row : (List Int)) : Prop :=
  (((decide ((7 : Int) < (l212.length : Int))) = true → K (((0 : Int), ((0 : Int), (([] : (List (List Int))), ((0 : Int), (0 : Int))))), (1 : Int))) ∧ ((decide ((7 : Int) < (l212.length : Int))) = false → (roomN (l6142.length + [row].length) ∧ (inIdx i l212.length ∧ (((!decide ((bAnd .u32 (l212.getD ((i).toNat) (0 : Int)) n.2.2.2.2) = (0 : Int))) = true → (0 ≤ i ∧ VC24_k3 i l6142 X1 l212 row (bOr .u32 out (bShl .u32 (1 : Int) i)))) ∧ ((!decide ((bAnd .u32 (l212.getD ((i).toNat) (0 : Int)) n.2.2.2.2) = (0 : Int))) = false → VC24_k3 i l6142 X1 l212 row out))))))

def VC24_k4 (v37 : Int) (X2 : Int × (List Int) × (List Int) → Prop) (l213 : (List Int)) (row2 : (List Int)) : Prop :=
  (InR (v37 + (1 : Int)) ∧ X2 ((v37 + (1 : Int)), l213, row2))

def VC24_k5 (v37 : Int) (row : (List Int)) (X2 : Int × (List Int) × (List Int) → Prop) (v3 : Int) (l213 : (List Int)) : Prop :=
  (inIdx v37 row.length ∧ VC24_k4 v37 X2 l213 (row.set ((v37).toNat) v3))

def VC24_k6 (v37 : Int) (l212 : (List Int)) (row : (List Int)) (X2 : Int × (List Int) × (List Int) → Prop) (ret49v : Int) : Prop :=
  (roomN (l212.length + [ret49v].length) ∧ (InR (((l212 ++ [ret49v]).length : Int) - (1 : Int)) ∧ VC24_k5 v37 row X2 (((l212 ++ [ret49v]).length : Int) - (1 : Int)) (l212 ++ [ret49v])))

def VC24_l3 (v37 : Int) (l212 : (List Int)) (row : (List Int)) (X2 : Int × (List Int) × (List Int) → Prop) (ret49v : Int) (v8 : Int) (X3 : Int → Prop) : Prop :=
  (((decide (v8 < (l212.length : Int))) = true → (inIdx v8 l212.length ∧ (((decide ((l212.getD ((v8).toNat) (0 : Int)) = ret49v)) = true → VC24_k5 v37 row X2 v8 l212) ∧ ((decide ((l212.getD ((v8).toNat) (0 : Int)) = ret49v)) = false → (InR (v8 + (1 : Int)) ∧ X3 (v8 + (1 : Int))))))) ∧ ((decide (v8 < (l212.length : Int))) = false → VC24_k6 v37 l212 row X2 ret49v))

def VC24_k7 (v37 : Int) (row : (List Int)) (X2 : Int × (List Int) × (List Int) → Prop) (v3 : Int) (l213 : (List Int)) : Prop :=
  (inIdx v37 row.length ∧ VC24_k4 v37 X2 l213 (row.set ((v37).toNat) v3))

def VC24_k8 (v37 : Int) (l212 : (List Int)) (row : (List Int)) (X2 : Int × (List Int) × (List Int) → Prop) (ret49v : Int) : Prop :=
  (roomN (l212.length + [ret49v].length) ∧ (InR (((l212 ++ [ret49v]).length : Int) - (1 : Int)) ∧ VC24_k7 v37 row X2 (((l212 ++ [ret49v]).length : Int) - (1 : Int)) (l212 ++ [ret49v])))

def VC24_l4 (v37 : Int) (l212 : (List Int)) (row : (List Int)) (X2 : Int × (List Int) × (List Int) → Prop) (ret49v : Int) (v8 : Int) (X4 : Int → Prop) : Prop :=
  (((decide (v8 < (l212.length : Int))) = true → (inIdx v8 l212.length ∧ (((decide ((l212.getD ((v8).toNat) (0 : Int)) = ret49v)) = true → VC24_k7 v37 row X2 v8 l212) ∧ ((decide ((l212.getD ((v8).toNat) (0 : Int)) = ret49v)) = false → (InR (v8 + (1 : Int)) ∧ X4 (v8 + (1 : Int))))))) ∧ ((decide (v8 < (l212.length : Int))) = false → VC24_k8 v37 l212 row X2 ret49v))

def VC24_k9 (v37 : Int) (row : (List Int)) (X2 : Int × (List Int) × (List Int) → Prop) (v3 : Int) (l213 : (List Int)) : Prop :=
  (inIdx v37 row.length ∧ VC24_k4 v37 X2 l213 (row.set ((v37).toNat) v3))

def VC24_k10 (v37 : Int) (l212 : (List Int)) (row : (List Int)) (X2 : Int × (List Int) × (List Int) → Prop) (ret49v : Int) : Prop :=
  (roomN (l212.length + [ret49v].length) ∧ (InR (((l212 ++ [ret49v]).length : Int) - (1 : Int)) ∧ VC24_k9 v37 row X2 (((l212 ++ [ret49v]).length : Int) - (1 : Int)) (l212 ++ [ret49v])))

def VC24_l5 (v37 : Int) (l212 : (List Int)) (row : (List Int)) (X2 : Int × (List Int) × (List Int) → Prop) (ret49v : Int) (v8 : Int) (X5 : Int → Prop) : Prop :=
  (((decide (v8 < (l212.length : Int))) = true → (inIdx v8 l212.length ∧ (((decide ((l212.getD ((v8).toNat) (0 : Int)) = ret49v)) = true → VC24_k9 v37 row X2 v8 l212) ∧ ((decide ((l212.getD ((v8).toNat) (0 : Int)) = ret49v)) = false → (InR (v8 + (1 : Int)) ∧ X5 (v8 + (1 : Int))))))) ∧ ((decide (v8 < (l212.length : Int))) = false → VC24_k10 v37 l212 row X2 ret49v))

def VC24_l2 (n : (Int × (Int × ((List (Int × (Int × Int))) × (Int × Int))))) (K : (Int × (Int × ((List (List Int)) × (Int × Int)))) × Int → Prop) (i : Int) (out : Int) (l6142 : (List (List Int))) (X1 : Int × Int × (List Int) × (List (List Int)) → Prop) (v37 : Int) (l212 : (List Int)) (row : (List Int)) (X2 : Int × (List Int) × (List Int) → Prop) : Prop :=
  (((decide (v37 < ((List.replicate (n.2.1).toNat (0 : Int)).length : Int))) = true → ((inIdx i l212.length ∧ VC46 n (l212.getD ((i).toNat) (0 : Int)) v37 (fun (ret49v : Int) => Loop (σ := Int) (fun s X => VC24_l3 v37 l212 row X2 ret49v s X) (0 : Int))) ∧ (inIdx i l212.length ∧ (VC46 n (l212.getD ((i).toNat) (0 : Int)) v37 (fun (ret49v : Int) => Loop (σ := Int) (fun s X => VC24_l4 v37 l212 row X2 ret49v s X) (0 : Int)) ∧ VC46 n (l212.getD ((i).toNat) (0 : Int)) v37 (fun (ret49v : Int) => Loop (σ := Int) (fun s X => VC24_l5 v37 l212 row X2 ret49v s X) (0 : Int)))))) ∧ ((decide (v37 < ((List.replicate (n.2.1).toNat (0 : Int)).length : Int))) = false → VC24_k2 n K i out l6142 X1 l212 row))

def VC24_l1 (n : (Int × (Int × ((List (Int × (Int × Int))) × (Int × Int))))) (K : (Int × (Int × ((List (List Int)) × (Int × Int)))) × Int → Prop) (i : Int) (out : Int) (l21 : (List Int)) (l6142 : (List (List Int))) (X1 : Int × Int × (List Int) × (List (List Int)) → Prop) : Prop :=
  (((decide (i < (l21.length : Int))) = true → (room n.2.1 ∧ Loop (σ := Int × (List Int) × (List Int)) (fun s X => VC24_l2 n K i out l6142 X1 s.1 s.2.1 s.2.2 X) ((0 : Int), l21, (List.replicate (n.2.1).toNat (0 : Int))))) ∧ ((decide (i < (l21.length : Int))) = false → VC24_k1 n K out l21 l6142))

def VC24 (n : (Int × (Int × ((List (Int × (Int × Int))) × (Int × Int))))) (K : (Int × (Int × ((List (List Int)) × (Int × Int)))) × Int → Prop) : Prop :=
  VC44 n (fun (ret12v : Int) => (((!decide (ret12v = (0 : Int))) = true → K (((0 : Int), ((0 : Int), (([] : (List (List Int))), ((0 : Int), (0 : Int))))), ret12v)) ∧ ((!decide (ret12v = (0 : Int))) = false → VC45 n n.2.2.2.1 (fun (ret20v : Int) => Loop (σ := Int × Int × (List Int) × (List (List Int))) (fun s X => VC24_l1 n K s.1 s.2.1 s.2.2.1 s.2.2.2 X) ((0 : Int), (0 : Int), [ret20v], ([] : List (List Int)))))))

set_option maxHeartbeats 4000000 in
theorem link24 (n : (Int × (Int × ((List (Int × (Int × Int))) × (Int × Int))))) (K : (Int × (Int × ((List (List Int)) × (Int × Int)))) × Int → Prop) (h : VC24 n K) : ACalls Try.prog 24 [toV1 (.pr (.int .i64) (.pr (.int .i64) (.pr (.sl (.pr (.int .i64) (.pr (.int .i64) (.int .i64)))) (.pr (.int .u32) (.int .u32))))) n] (fun res => ∃ y, res = (fun y => [toV1 (.pr (.int .i64) (.pr (.int .i64) (.pr (.sl (.sl (.int .i64))) (.pr (.int .i64) (.int .u32))))) y.1, toV1 (.int .i64) y.2]) y ∧ K y) := by
  refine acalls_of_aw [(.pr (.int .i64) (.pr (.int .i64) (.pr (.sl (.sl (.int .i64))) (.pr (.int .i64) (.int .u32))))), (.int .i64)] [.c 2 25, .t 3] Try.func24 rfl rfl rfl ?_
  unfold VC24 at h
  refine aw_seq ?_
  refine aw_region ?_
  refine awl_runp 3 [1, 2] [1, 2] (ob := (True ∧ True ∧ True ∧ True)) (st' := (⟨81, [(1, [], .v (.c (.ptr 1 0))), (2, [], .v (.c (.ptr 2 0)))], [(1, [], .box [.p (.int .i64) n.1, .p (.int .i64) n.2.1, .p (.sl (.pr (.int .i64) (.pr (.int .i64) (.int .i64)))) n.2.2.1, .p (.int .u32) n.2.2.2.1, .p (.int .u32) n.2.2.2.2]), (2, [], .box [.p (.int .i64) (0 : Int), .p (.int .i64) (0 : Int), .nils, .p (.int .i64) (0 : Int), .p (.int .u32) (0 : Int)])]⟩ : St)) (by kernel_rfl) ⟨trivial, trivial, trivial, trivial⟩ ?_
  refine awl_nil ?_
  refine thenQ_n ?_
  refine aw_seq ?_
  refine aw_seq ?_
  refine aw_region ?_
  refine awl_runp 1 [1, 2, 11] [1, 2] (ob := (True ∧ True)) (st' := (⟨81, [(1, [], .v (.c (.ptr 1 0))), (2, [], .v (.c (.ptr 2 0))), (11, [], .v (.agg [.p (.int .i64) n.1, .p (.int .i64) n.2.1, .p (.sl (.pr (.int .i64) (.pr (.int .i64) (.int .i64)))) n.2.2.1, .p (.int .u32) n.2.2.2.1, .p (.int .u32) n.2.2.2.2]))], [(1, [], .box [.p (.int .i64) n.1, .p (.int .i64) n.2.1, .p (.sl (.pr (.int .i64) (.pr (.int .i64) (.int .i64)))) n.2.2.1, .p (.int .u32) n.2.2.2.1, .p (.int .u32) n.2.2.2.2]), (2, [], .box [.p (.int .i64) (0 : Int), .p (.int .i64) (0 : Int), .nils, .p (.int .i64) (0 : Int), .p (.int .u32) (0 : Int)])]⟩ : St)) (by kernel_rfl) ⟨trivial, trivial⟩ ?_
  refine awl_callk (p := []) (l := [toV1 (.pr (.int .i64) (.pr (.int .i64) (.pr (.sl (.pr (.int .i64) (.pr (.int .i64) (.int .i64)))) (.pr (.int .u32) (.int .u32))))) n]) (cl := []) false [.d (.pr (.int .i64) (.pr (.int .i64) (.pr (.sl (.pr (.int .i64) (.pr (.int .i64) (.int .i64)))) (.pr (.int .u32) (.int .u32)))))] [1, 2, 12] [1, 2] (fun (ret12v : Int) => (((!decide (ret12v = (0 : Int))) = true → K (((0 : Int), ((0 : Int), (([] : (List (List Int))), ((0 : Int), (0 : Int))))), ret12v)) ∧ ((!decide (ret12v = (0 : Int))) = false → VC45 n n.2.2.2.1 (fun (ret20v : Int) => Loop (σ := Int × Int × (List Int) × (List (List Int))) (fun s X => VC24_l1 n K s.1 s.2.1 s.2.2.1 s.2.2.2 X) ((0 : Int), (0 : Int), [ret20v], ([] : List (List Int))))))) (fun ret12v => [toV1 (.int .i64) ret12v]) (fun ret12v => (⟨81, [(1, [], .v (.c (.ptr 1 0))), (2, [], .v (.c (.ptr 2 0))), (12, [], .v (.c (.p (.int .i64) ret12v)))], [(1, [], .box [.p (.int .i64) n.1, .p (.int .i64) n.2.1, .p (.sl (.pr (.int .i64) (.pr (.int .i64) (.int .i64)))) n.2.2.1, .p (.int .u32) n.2.2.2.1, .p (.int .u32) n.2.2.2.2]), (2, [], .box [.p (.int .i64) (0 : Int), .p (.int .i64) (0 : Int), .nils, .p (.int .i64) (0 : Int), .p (.int .u32) (0 : Int)])]⟩ : St)) (by kernel_rfl) rfl (by kernel_rfl) rfl (by kernel_rfl) Try.call44 (by kernel_rfl) (fun ret12v => by kernel_rfl) (fun e => by cases e) (fun hg => link44 n _ h) (fun hg => noF hg) (fun ret12v h => ?_)
  have h : (((!decide (ret12v = (0 : Int))) = true → K (((0 : Int), ((0 : Int), (([] : (List (List Int))), ((0 : Int), (0 : Int))))), ret12v)) ∧ ((!decide (ret12v = (0 : Int))) = false → VC45 n n.2.2.2.1 (fun (ret20v : Int) => Loop (σ := Int × Int × (List Int) × (List (List Int))) (fun s X => VC24_l1 n K s.1 s.2.1 s.2.2.1 s.2.2.2 X) ((0 : Int), (0 : Int), [ret20v], ([] : List (List Int)))))) := h
  refine awl_runp 1 [1, 2, 4] [1, 2] (ob := (True ∧ True)) (st' := (⟨81, [(1, [], .v (.c (.ptr 1 0))), (2, [], .v (.c (.ptr 2 0))), (4, [], .v (.c (.p (.int .i64) ret12v)))], [(1, [], .box [.p (.int .i64) n.1, .p (.int .i64) n.2.1, .p (.sl (.pr (.int .i64) (.pr (.int .i64) (.int .i64)))) n.2.2.1, .p (.int .u32) n.2.2.2.1, .p (.int .u32) n.2.2.2.2]), (2, [], .box [.p (.int .i64) (0 : Int), .p (.int .i64) (0 : Int), .nils, .p (.int .i64) (0 : Int), .p (.int .u32) (0 : Int)])]⟩ : St)) (by kernel_rfl) ⟨trivial, trivial⟩ ?_
  refine awl_nil ?_
  refine thenQ_n ?_
  refine aw_seq ?_
  refine aw_region ?_
  refine awl_runp 2 [1, 2, 4, 14] [1, 2] (ob := (True ∧ True ∧ True)) (st' := (⟨81, [(1, [], .v (.c (.ptr 1 0))), (2, [], .v (.c (.ptr 2 0))), (4, [], .v (.c (.p (.int .i64) ret12v))), (14, [], .v (.c (.p .bool (!decide (ret12v = (0 : Int))))))], [(1, [], .box [.p (.int .i64) n.1, .p (.int .i64) n.2.1, .p (.sl (.pr (.int .i64) (.pr (.int .i64) (.int .i64)))) n.2.2.1, .p (.int .u32) n.2.2.2.1, .p (.int .u32) n.2.2.2.2]), (2, [], .box [.p (.int .i64) (0 : Int), .p (.int .i64) (0 : Int), .nils, .p (.int .i64) (0 : Int), .p (.int .u32) (0 : Int)])]⟩ : St)) (by kernel_rfl) ⟨trivial, trivial, trivial⟩ ?_
  refine awl_nil ?_
  refine thenQ_n ?_
  refine aw_cond (b := (!decide (ret12v = (0 : Int)))) (by kernel_rfl) (fun hb => ?_) (fun hb => ?_)
  · have h := h.1 hb
    refine aw_seq ?_
    refine aw_region ?_
    refine awl_runp 4 [2, 3] [2] (ob := (True ∧ True ∧ True ∧ True ∧ True)) (st' := (⟨81, [(2, [], .v (.c (.ptr 2 0))), (3, [], .v (.c (.p (.int .i64) ret12v)))], [(2, [], .box [.p (.int .i64) (0 : Int), .p (.int .i64) (0 : Int), .nils, .p (.int .i64) (0 : Int), .p (.int .u32) (0 : Int)])]⟩ : St)) (by kernel_rfl) ⟨trivial, trivial, trivial, trivial, trivial⟩ ?_
    refine awl_nil ?_
    refine thenQ_n ?_
    refine aw_ret ?_
    refine thenQ_r ?_
    exact retQ_r (σ := (Int × (Int × ((List (List Int)) × (Int × Int)))) × Int) (R := (fun y => [toV1 (.pr (.int .i64) (.pr (.int .i64) (.pr (.sl (.sl (.int .i64))) (.pr (.int .i64) (.int .u32))))) y.1, toV1 (.int .i64) y.2])) (ob := (True ∧ True ∧ True)) (((0 : Int), ((0 : Int), (([] : (List (List Int))), ((0 : Int), (0 : Int))))), ret12v) (by kernel_rfl) ⟨trivial, trivial, trivial⟩ h
  · have h := h.2 hb
    refine aw_skip ?_
    refine thenQ_n ?_
    refine aw_seq ?_
    refine aw_region ?_
    refine awl_runp 3 [1, 2, 17, 19] [1, 2] (ob := (True ∧ True ∧ True ∧ True)) (st' := (⟨81, [(1, [], .v (.c (.ptr 1 0))), (2, [], .v (.c (.ptr 2 0))), (17, [], .v (.agg [.p (.int .i64) n.1, .p (.int .i64) n.2.1, .p (.sl (.pr (.int .i64) (.pr (.int .i64) (.int .i64)))) n.2.2.1, .p (.int .u32) n.2.2.2.1, .p (.int .u32) n.2.2.2.2])), (19, [], .v (.c (.p (.int .u32) n.2.2.2.1)))], [(1, [], .box [.p (.int .i64) n.1, .p (.int .i64) n.2.1, .p (.sl (.pr (.int .i64) (.pr (.int .i64) (.int .i64)))) n.2.2.1, .p (.int .u32) n.2.2.2.1, .p (.int .u32) n.2.2.2.2]), (2, [], .box [.p (.int .i64) (0 : Int), .p (.int .i64) (0 : Int), .nils, .p (.int .i64) (0 : Int), .p (.int .u32) (0 : Int)])]⟩ : St)) (by kernel_rfl) ⟨trivial, trivial, trivial, trivial⟩ ?_
    refine awl_callk (p := []) (l := [toV1 (.pr (.int .i64) (.pr (.int .i64) (.pr (.sl (.pr (.int .i64) (.pr (.int .i64) (.int .i64)))) (.pr (.int .u32) (.int .u32))))) n, toV1 (.int .u32) n.2.2.2.1]) (cl := []) false [.d (.pr (.int .i64) (.pr (.int .i64) (.pr (.sl (.pr (.int .i64) (.pr (.int .i64) (.int .i64)))) (.pr (.int .u32) (.int .u32))))), .d (.int .u32)] [1, 2, 20] [1, 2] (fun (ret20v : Int) => Loop (σ := Int × Int × (List Int) × (List (List Int))) (fun s X => VC24_l1 n K s.1 s.2.1 s.2.2.1 s.2.2.2 X) ((0 : Int), (0 : Int), [ret20v], ([] : List (List Int)))) (fun ret20v => [toV1 (.int .u32) ret20v]) (fun ret20v => (⟨81, [(1, [], .v (.c (.ptr 1 0))), (2, [], .v (.c (.ptr 2 0))), (20, [], .v (.c (.p (.int .u32) ret20v)))], [(1, [], .box [.p (.int .i64) n.1, .p (.int .i64) n.2.1, .p (.sl (.pr (.int .i64) (.pr (.int .i64) (.int .i64)))) n.2.2.1, .p (.int .u32) n.2.2.2.1, .p (.int .u32) n.2.2.2.2]), (2, [], .box [.p (.int .i64) (0 : Int), .p (.int .i64) (0 : Int), .nils, .p (.int .i64) (0 : Int), .p (.int .u32) (0 : Int)])]⟩ : St)) (by kernel_rfl) rfl (by kernel_rfl) rfl (by kernel_rfl) Try.call45 (by kernel_rfl) (fun ret20v => by kernel_rfl) (fun e => by cases e) (fun hg => link45 n n.2.2.2.1 _ h) (fun hg => noF hg) (fun ret20v h => ?_)
    have h : Loop (σ := Int × Int × (List Int) × (List (List Int))) (fun s X => VC24_l1 n K s.1 s.2.1 s.2.2.1 s.2.2.2 X) ((0 : Int), (0 : Int), [ret20v], ([] : List (List Int))) := h
    refine awl_runp 3 [1, 2, 5] [1, 2, 5, 21] (ob := (True ∧ True ∧ True ∧ True)) (st' := (⟨81, [(1, [], .v (.c (.ptr 1 0))), (2, [], .v (.c (.ptr 2 0))), (5, [], .v (.c (.ptr 5 0)))], [(1, [], .box [.p (.int .i64) n.1, .p (.int .i64) n.2.1, .p (.sl (.pr (.int .i64) (.pr (.int .i64) (.int .i64)))) n.2.2.1, .p (.int .u32) n.2.2.2.1, .p (.int .u32) n.2.2.2.2]), (2, [], .box [.p (.int .i64) (0 : Int), .p (.int .i64) (0 : Int), .nils, .p (.int .i64) (0 : Int), .p (.int .u32) (0 : Int)]), (5, [], .box [.own 21]), (21, [], .arr 23 (.int .u32) [ret20v])]⟩ : St)) (by kernel_rfl) ⟨trivial, trivial, trivial, trivial⟩ ?_
    refine awl_nil ?_
    refine thenQ_n ?_
    refine aw_seq ?_
    refine aw_region ?_
    refine awl_runp 2 [1, 2, 5, 6] [1, 2, 5, 21] (ob := (True ∧ True ∧ True)) (st' := (⟨81, [(1, [], .v (.c (.ptr 1 0))), (2, [], .v (.c (.ptr 2 0))), (5, [], .v (.c (.ptr 5 0))), (6, [], .v (.c (.cl 47 [.pt 5 0])))], [(1, [], .box [.p (.int .i64) n.1, .p (.int .i64) n.2.1, .p (.sl (.pr (.int .i64) (.pr (.int .i64) (.int .i64)))) n.2.2.1, .p (.int .u32) n.2.2.2.1, .p (.int .u32) n.2.2.2.2]), (2, [], .box [.p (.int .i64) (0 : Int), .p (.int .i64) (0 : Int), .nils, .p (.int .i64) (0 : Int), .p (.int .u32) (0 : Int)]), (5, [], .box [.own 21]), (21, [], .arr 23 (.int .u32) [ret20v])]⟩ : St)) (by kernel_rfl) ⟨trivial, trivial, trivial⟩ ?_
    refine awl_nil ?_
    refine thenQ_n ?_
    refine aw_seq ?_
    refine aw_region ?_
    refine awl_runp 5 [1, 2, 5, 6, 7] [1, 2, 5, 7, 21] (ob := (True ∧ True ∧ True ∧ True ∧ True ∧ True)) (st' := (⟨81, [(1, [], .v (.c (.ptr 1 0))), (2, [], .v (.c (.ptr 2 0))), (5, [], .v (.c (.ptr 5 0))), (6, [], .v (.c (.cl 47 [.pt 5 0]))), (7, [], .v (.c (.ptr 7 0)))], [(1, [], .box [.p (.int .i64) n.1, .p (.int .i64) n.2.1, .p (.sl (.pr (.int .i64) (.pr (.int .i64) (.int .i64)))) n.2.2.1, .p (.int .u32) n.2.2.2.1, .p (.int .u32) n.2.2.2.2]), (2, [], .box [.p (.int .i64) (0 : Int), .p (.int .i64) (0 : Int), .nils, .p (.int .i64) (0 : Int), .p (.int .u32) (0 : Int)]), (5, [], .box [.own 21]), (7, [], .box [.p (.int .i64) (0 : Int), .p (.int .i64) n.2.1, .nils, .p (.int .i64) (0 : Int), .p (.int .u32) (0 : Int)]), (21, [], .arr 23 (.int .u32) [ret20v])]⟩ : St)) (by kernel_rfl) ⟨trivial, trivial, trivial, trivial, trivial, trivial⟩ ?_
    refine awl_nil ?_
    refine thenQ_n ?_
    refine aw_seq ?_
    refine aw_seq ?_
    refine aw_region ?_
    refine awl_runp 1 [1, 2, 5, 6, 7, 8] [1, 2, 5, 7, 21] (ob := (True ∧ True)) (st' := (⟨81, [(1, [], .v (.c (.ptr 1 0))), (2, [], .v (.c (.ptr 2 0))), (5, [], .v (.c (.ptr 5 0))), (6, [], .v (.c (.cl 47 [.pt 5 0]))), (7, [], .v (.c (.ptr 7 0))), (8, [], .v (.c (.p (.int .i64) (0 : Int))))], [(1, [], .box [.p (.int .i64) n.1, .p (.int .i64) n.2.1, .p (.sl (.pr (.int .i64) (.pr (.int .i64) (.int .i64)))) n.2.2.1, .p (.int .u32) n.2.2.2.1, .p (.int .u32) n.2.2.2.2]), (2, [], .box [.p (.int .i64) (0 : Int), .p (.int .i64) (0 : Int), .nils, .p (.int .i64) (0 : Int), .p (.int .u32) (0 : Int)]), (5, [], .box [.own 21]), (7, [], .box [.p (.int .i64) (0 : Int), .p (.int .i64) n.2.1, .nils, .p (.int .i64) (0 : Int), .p (.int .u32) (0 : Int)]), (21, [], .arr 23 (.int .u32) [ret20v])]⟩ : St)) (by kernel_rfl) ⟨trivial, trivial⟩ ?_
    refine awl_nil ?_
    refine thenQ_n ?_
    refine withJoin (σ := Int × (List Int) × (List (List Int))) (fun s => (⟨81, [(2, [], .v (.c (.ptr 2 0))), (5, [], .v (.c (.ptr 5 0))), (7, [], .v (.c (.ptr 7 0)))], [(2, [], .box [.p (.int .i64) (0 : Int), .p (.int .i64) (0 : Int), .nils, .p (.int .i64) (0 : Int), .p (.int .u32) (0 : Int)]), (5, [], .box [.own 21]), (7, [], .box [.p (.int .i64) (0 : Int), .p (.int .i64) n.2.1, .own 6142, .p (.int .i64) (0 : Int), .p (.int .u32) s.1]), (21, [], .arr 23 (.int .u32) s.2.1), (6142, [], .arr 26 (.sl (.int .i64)) s.2.2)]⟩ : St)) (fun s => VC24_k1 n K s.1 s.2.1 s.2.2) (fun s h => ?_) (fun rest1 => ?_)
    · obtain ⟨out, l21, l6142⟩ := s
      have h : VC24_k1 n K out l21 l6142 := h
      unfold VC24_k1 at h
      refine thenQ_n ?_
      refine aw_seq ?_
      refine aw_region ?_
      refine awl_runp 4 [2, 7] [2, 7, 6142] (ob := (True ∧ True ∧ True ∧ True ∧ True)) (st' := (⟨81, [(2, [], .v (.c (.ptr 2 0))), (7, [], .v (.c (.ptr 7 0)))], [(2, [], .box [.p (.int .i64) (0 : Int), .p (.int .i64) (0 : Int), .nils, .p (.int .i64) (0 : Int), .p (.int .u32) (0 : Int)]), (7, [], .box [.p (.int .i64) (l21.length : Int), .p (.int .i64) n.2.1, .own 6142, .p (.int .i64) (0 : Int), .p (.int .u32) out]), (6142, [], .arr 26 (.sl (.int .i64)) l6142)]⟩ : St)) (by kernel_rfl) ⟨trivial, trivial, trivial, trivial, trivial⟩ ?_
      refine awl_nil ?_
      refine thenQ_n ?_
      refine aw_seq ?_
      refine aw_region ?_
      refine awl_runp 3 [2, 3] [2, 6142] (ob := (True ∧ True ∧ True ∧ True)) (st' := (⟨81, [(2, [], .v (.c (.ptr 2 0))), (3, [], .v (.c (.p (.int .i64) (0 : Int))))], [(2, [], .box [.p (.int .i64) (l21.length : Int), .p (.int .i64) n.2.1, .own 6142, .p (.int .i64) (0 : Int), .p (.int .u32) out]), (6142, [], .arr 26 (.sl (.int .i64)) l6142)]⟩ : St)) (by kernel_rfl) ⟨trivial, trivial, trivial, trivial⟩ ?_
      refine awl_nil ?_
      refine thenQ_n ?_
      refine aw_conv [.freeze 6142] (st' := (⟨81, [(2, [], .v (.c (.ptr 2 0))), (3, [], .v (.c (.p (.int .i64) (0 : Int))))], [(2, [], .box [.p (.int .i64) (l21.length : Int), .p (.int .i64) n.2.1, .p (.sl (.sl (.int .i64))) l6142, .p (.int .i64) (0 : Int), .p (.int .u32) out])]⟩ : St)) (by kernel_rfl) ?_
      refine aw_ret ?_
      exact retQ_r (σ := (Int × (Int × ((List (List Int)) × (Int × Int)))) × Int) (R := (fun y => [toV1 (.pr (.int .i64) (.pr (.int .i64) (.pr (.sl (.sl (.int .i64))) (.pr (.int .i64) (.int .u32))))) y.1, toV1 (.int .i64) y.2])) (ob := (True ∧ True ∧ True)) (((l21.length : Int), (n.2.1, (l6142, ((0 : Int), out)))), (0 : Int)) (by kernel_rfl) ⟨trivial, trivial, trivial⟩ h
    · refine aw_block ?_
      refine aw_conv [.nilOwnB 7 2 6142 26 (.sl (.int .i64)), .prune [1, 2, 5, 6, 7, 8] [1, 2, 5, 7, 21, 6142]] (st' := (⟨81, [(1, [], .v (.c (.ptr 1 0))), (2, [], .v (.c (.ptr 2 0))), (5, [], .v (.c (.ptr 5 0))), (6, [], .v (.c (.cl 47 [.pt 5 0]))), (7, [], .v (.c (.ptr 7 0))), (8, [], .v (.c (.p (.int .i64) (0 : Int))))], [(1, [], .box [.p (.int .i64) n.1, .p (.int .i64) n.2.1, .p (.sl (.pr (.int .i64) (.pr (.int .i64) (.int .i64)))) n.2.2.1, .p (.int .u32) n.2.2.2.1, .p (.int .u32) n.2.2.2.2]), (2, [], .box [.p (.int .i64) (0 : Int), .p (.int .i64) (0 : Int), .nils, .p (.int .i64) (0 : Int), .p (.int .u32) (0 : Int)]), (5, [], .box [.own 21]), (7, [], .box [.p (.int .i64) (0 : Int), .p (.int .i64) n.2.1, .own 6142, .p (.int .i64) (0 : Int), .p (.int .u32) (0 : Int)]), (21, [], .arr 23 (.int .u32) [ret20v]), (6142, [], .arr 26 (.sl (.int .i64)) ([] : List (List Int)))]⟩ : St)) (by kernel_rfl) ?_
      refine aw_loop (σ := Int × Int × (List Int) × (List (List Int))) (fun s => (⟨81, [(1, [], .v (.c (.ptr 1 0))), (2, [], .v (.c (.ptr 2 0))), (5, [], .v (.c (.ptr 5 0))), (6, [], .v (.c (.cl 47 [.pt 5 0]))), (7, [], .v (.c (.ptr 7 0))), (8, [], .v (.c (.p (.int .i64) s.1)))], [(1, [], .box [.p (.int .i64) n.1, .p (.int .i64) n.2.1, .p (.sl (.pr (.int .i64) (.pr (.int .i64) (.int .i64)))) n.2.2.1, .p (.int .u32) n.2.2.2.1, .p (.int .u32) n.2.2.2.2]), (2, [], .box [.p (.int .i64) (0 : Int), .p (.int .i64) (0 : Int), .nils, .p (.int .i64) (0 : Int), .p (.int .u32) (0 : Int)]), (5, [], .box [.own 21]), (7, [], .box [.p (.int .i64) (0 : Int), .p (.int .i64) n.2.1, .own 6142, .p (.int .i64) (0 : Int), .p (.int .u32) s.2.1]), (21, [], .arr 23 (.int .u32) s.2.2.1), (6142, [], .arr 26 (.sl (.int .i64)) s.2.2.2)]⟩ : St)) (fun s X => VC24_l1 n K s.1 s.2.1 s.2.2.1 s.2.2.2 X) (s0 := ((0 : Int), (0 : Int), [ret20v], ([] : List (List Int)))) (fun s X1 h => ?_) h
      obtain ⟨i, out, l21, l6142⟩ := s
      have h : VC24_l1 n K i out l21 l6142 X1 := h
      unfold VC24_l1 at h
      refine aw_seq ?_
      refine aw_seq ?_
      refine aw_region ?_
      refine awl_runp 4 [1, 2, 5, 6, 7, 8, 29] [1, 2, 5, 7, 21, 6142] (ob := (True ∧ True ∧ True ∧ True ∧ True)) (st' := (⟨81, [(1, [], .v (.c (.ptr 1 0))), (2, [], .v (.c (.ptr 2 0))), (5, [], .v (.c (.ptr 5 0))), (6, [], .v (.c (.cl 47 [.pt 5 0]))), (7, [], .v (.c (.ptr 7 0))), (8, [], .v (.c (.p (.int .i64) i))), (29, [], .v (.c (.p .bool (decide (i < (l21.length : Int))))))], [(1, [], .box [.p (.int .i64) n.1, .p (.int .i64) n.2.1, .p (.sl (.pr (.int .i64) (.pr (.int .i64) (.int .i64)))) n.2.2.1, .p (.int .u32) n.2.2.2.1, .p (.int .u32) n.2.2.2.2]), (2, [], .box [.p (.int .i64) (0 : Int), .p (.int .i64) (0 : Int), .nils, .p (.int .i64) (0 : Int), .p (.int .u32) (0 : Int)]), (5, [], .box [.own 21]), (7, [], .box [.p (.int .i64) (0 : Int), .p (.int .i64) n.2.1, .own 6142, .p (.int .i64) (0 : Int), .p (.int .u32) out]), (21, [], .arr 23 (.int .u32) l21), (6142, [], .arr 26 (.sl (.int .i64)) l6142)]⟩ : St)) (by kernel_rfl) ⟨trivial, trivial, trivial, trivial, trivial⟩ ?_
      refine awl_nil ?_
      refine thenQ_n ?_
      refine aw_cond (b := (decide (i < (l21.length : Int)))) (by kernel_rfl) (fun hb => ?_) (fun hb => ?_)
      · have h := h.1 hb
        refine aw_skip ?_
        refine thenQ_n ?_
        refine aw_seq ?_
        refine aw_block ?_
        refine aw_seq ?_
        refine aw_region ?_
        obtain ⟨o1, h⟩ := h
        refine awl_runp 4 [1, 2, 5, 6, 7, 8, 9] [1, 2, 5, 7, 21, 34, 6142] (ob := (True ∧ True ∧ room n.2.1 ∧ True ∧ True)) (st' := (⟨81, [(1, [], .v (.c (.ptr 1 0))), (2, [], .v (.c (.ptr 2 0))), (5, [], .v (.c (.ptr 5 0))), (6, [], .v (.c (.cl 47 [.pt 5 0]))), (7, [], .v (.c (.ptr 7 0))), (8, [], .v (.c (.p (.int .i64) i))), (9, [], .v (.c (.own 34)))], [(1, [], .box [.p (.int .i64) n.1, .p (.int .i64) n.2.1, .p (.sl (.pr (.int .i64) (.pr (.int .i64) (.int .i64)))) n.2.2.1, .p (.int .u32) n.2.2.2.1, .p (.int .u32) n.2.2.2.2]), (2, [], .box [.p (.int .i64) (0 : Int), .p (.int .i64) (0 : Int), .nils, .p (.int .i64) (0 : Int), .p (.int .u32) (0 : Int)]), (5, [], .box [.own 21]), (7, [], .box [.p (.int .i64) (0 : Int), .p (.int .i64) n.2.1, .own 6142, .p (.int .i64) (0 : Int), .p (.int .u32) out]), (21, [], .arr 23 (.int .u32) l21), (34, [], .arr 3 (.int .i64) (List.replicate (n.2.1).toNat (0 : Int))), (6142, [], .arr 26 (.sl (.int .i64)) l6142)]⟩ : St)) (by kernel_rfl) ⟨trivial, trivial, o1, trivial, trivial⟩ ?_
        refine awl_nil ?_
        refine thenQ_n ?_
        refine aw_seq ?_
        refine aw_seq ?_
        refine aw_region ?_
        refine awl_runp 3 [1, 2, 5, 6, 7, 8, 9, 36, 37] [1, 2, 5, 7, 21, 34, 6142] (ob := (True ∧ True ∧ True ∧ True)) (st' := (⟨81, [(1, [], .v (.c (.ptr 1 0))), (2, [], .v (.c (.ptr 2 0))), (5, [], .v (.c (.ptr 5 0))), (6, [], .v (.c (.cl 47 [.pt 5 0]))), (7, [], .v (.c (.ptr 7 0))), (8, [], .v (.c (.p (.int .i64) i))), (9, [], .v (.c (.own 34))), (36, [], .v (.c (.p (.int .i64) ((List.replicate (n.2.1).toNat (0 : Int)).length : Int)))), (37, [], .v (.c (.p (.int .i64) (0 : Int))))], [(1, [], .box [.p (.int .i64) n.1, .p (.int .i64) n.2.1, .p (.sl (.pr (.int .i64) (.pr (.int .i64) (.int .i64)))) n.2.2.1, .p (.int .u32) n.2.2.2.1, .p (.int .u32) n.2.2.2.2]), (2, [], .box [.p (.int .i64) (0 : Int), .p (.int .i64) (0 : Int), .nils, .p (.int .i64) (0 : Int), .p (.int .u32) (0 : Int)]), (5, [], .box [.own 21]), (7, [], .box [.p (.int .i64) (0 : Int), .p (.int .i64) n.2.1, .own 6142, .p (.int .i64) (0 : Int), .p (.int .u32) out]), (21, [], .arr 23 (.int .u32) l21), (34, [], .arr 3 (.int .i64) (List.replicate (n.2.1).toNat (0 : Int))), (6142, [], .arr 26 (.sl (.int .i64)) l6142)]⟩ : St)) (by kernel_rfl) ⟨trivial, trivial, trivial, trivial⟩ ?_
        refine awl_nil ?_
        refine thenQ_n ?_
        refine withJoin (σ := (List Int) × (List Int)) (fun s => (⟨81, [(1, [], .v (.c (.ptr 1 0))), (2, [], .v (.c (.ptr 2 0))), (5, [], .v (.c (.ptr 5 0))), (6, [], .v (.c (.cl 47 [.pt 5 0]))), (7, [], .v (.c (.ptr 7 0))), (8, [], .v (.c (.p (.int .i64) i))), (9, [], .v (.c (.own 34)))], [(1, [], .box [.p (.int .i64) n.1, .p (.int .i64) n.2.1, .p (.sl (.pr (.int .i64) (.pr (.int .i64) (.int .i64)))) n.2.2.1, .p (.int .u32) n.2.2.2.1, .p (.int .u32) n.2.2.2.2]), (2, [], .box [.p (.int .i64) (0 : Int), .p (.int .i64) (0 : Int), .nils, .p (.int .i64) (0 : Int), .p (.int .u32) (0 : Int)]), (5, [], .box [.own 21]), (7, [], .box [.p (.int .i64) (0 : Int), .p (.int .i64) n.2.1, .own 6142, .p (.int .i64) (0 : Int), .p (.int .u32) out]), (21, [], .arr 23 (.int .u32) s.1), (34, [], .arr 3 (.int .i64) s.2), (6142, [], .arr 26 (.sl (.int .i64)) l6142)]⟩ : St)) (fun s => VC24_k2 n K i out l6142 X1 s.1 s.2) (fun s h => ?_) (fun rest3 => ?_)
        · obtain ⟨l212, row⟩ := s
          have h : VC24_k2 n K i out l6142 X1 l212 row := h
          unfold VC24_k2 at h
          refine thenQ_n ?_
          refine aw_seq ?_
          refine aw_seq ?_
          refine aw_region ?_
          refine awl_runp 3 [1, 2, 5, 6, 7, 8, 9, 55] [1, 2, 5, 7, 21, 34, 6142] (ob := (True ∧ True ∧ True ∧ True)) (st' := (⟨81, [(1, [], .v (.c (.ptr 1 0))), (2, [], .v (.c (.ptr 2 0))), (5, [], .v (.c (.ptr 5 0))), (6, [], .v (.c (.cl 47 [.pt 5 0]))), (7, [], .v (.c (.ptr 7 0))), (8, [], .v (.c (.p (.int .i64) i))), (9, [], .v (.c (.own 34))), (55, [], .v (.c (.p .bool (decide ((7 : Int) < (l212.length : Int))))))], [(1, [], .box [.p (.int .i64) n.1, .p (.int .i64) n.2.1, .p (.sl (.pr (.int .i64) (.pr (.int .i64) (.int .i64)))) n.2.2.1, .p (.int .u32) n.2.2.2.1, .p (.int .u32) n.2.2.2.2]), (2, [], .box [.p (.int .i64) (0 : Int), .p (.int .i64) (0 : Int), .nils, .p (.int .i64) (0 : Int), .p (.int .u32) (0 : Int)]), (5, [], .box [.own 21]), (7, [], .box [.p (.int .i64) (0 : Int), .p (.int .i64) n.2.1, .own 6142, .p (.int .i64) (0 : Int), .p (.int .u32) out]), (21, [], .arr 23 (.int .u32) l212), (34, [], .arr 3 (.int .i64) row), (6142, [], .arr 26 (.sl (.int .i64)) l6142)]⟩ : St)) (by kernel_rfl) ⟨trivial, trivial, trivial, trivial⟩ ?_
          refine awl_nil ?_
          refine thenQ_n ?_
          refine aw_cond (b := (decide ((7 : Int) < (l212.length : Int)))) (by kernel_rfl) (fun hb => ?_) (fun hb => ?_)
          · have h := h.1 hb
            refine aw_seq ?_
            refine aw_region ?_
            refine awl_runp 3 [2, 3] [2] (ob := (True ∧ True ∧ True ∧ True)) (st' := (⟨81, [(2, [], .v (.c (.ptr 2 0))), (3, [], .v (.c (.p (.int .i64) (1 : Int))))], [(2, [], .box [.p (.int .i64) (0 : Int), .p (.int .i64) (0 : Int), .nils, .p (.int .i64) (0 : Int), .p (.int .u32) (0 : Int)])]⟩ : St)) (by kernel_rfl) ⟨trivial, trivial, trivial, trivial⟩ ?_
            refine awl_nil ?_
            refine thenQ_n ?_
            refine aw_ret ?_
            refine thenQ_r ?_
            refine blockQ_r ?_
            refine thenQ_r ?_
            refine thenQ_r ?_
            refine blockQ_r ?_
            refine thenQ_r ?_
            exact retQ_r (σ := (Int × (Int × ((List (List Int)) × (Int × Int)))) × Int) (R := (fun y => [toV1 (.pr (.int .i64) (.pr (.int .i64) (.pr (.sl (.sl (.int .i64))) (.pr (.int .i64) (.int .u32))))) y.1, toV1 (.int .i64) y.2])) (ob := (True ∧ True ∧ True)) (((0 : Int), ((0 : Int), (([] : (List (List Int))), ((0 : Int), (0 : Int))))), (1 : Int)) (by kernel_rfl) ⟨trivial, trivial, trivial⟩ h
          · have h := h.2 hb
            refine aw_skip ?_
            refine thenQ_n ?_
            refine aw_seq ?_
            refine aw_region ?_
            refine awl_runp 3 [1, 2, 5, 6, 7, 8, 58, 59] [1, 2, 5, 7, 21, 34, 6142] (ob := (True ∧ True ∧ True ∧ True)) (st' := (⟨81, [(1, [], .v (.c (.ptr 1 0))), (2, [], .v (.c (.ptr 2 0))), (5, [], .v (.c (.ptr 5 0))), (6, [], .v (.c (.cl 47 [.pt 5 0]))), (7, [], .v (.c (.ptr 7 0))), (8, [], .v (.c (.p (.int .i64) i))), (58, [], .v (.c (.own 6142))), (59, [], .v (.c (.own 34)))], [(1, [], .box [.p (.int .i64) n.1, .p (.int .i64) n.2.1, .p (.sl (.pr (.int .i64) (.pr (.int .i64) (.int .i64)))) n.2.2.1, .p (.int .u32) n.2.2.2.1, .p (.int .u32) n.2.2.2.2]), (2, [], .box [.p (.int .i64) (0 : Int), .p (.int .i64) (0 : Int), .nils, .p (.int .i64) (0 : Int), .p (.int .u32) (0 : Int)]), (5, [], .box [.own 21]), (7, [], .box [.p (.int .i64) (0 : Int), .p (.int .i64) n.2.1, .own 6142, .p (.int .i64) (0 : Int), .p (.int .u32) out]), (21, [], .arr 23 (.int .u32) l212), (34, [], .arr 3 (.int .i64) row), (6142, [], .arr 26 (.sl (.int .i64)) l6142)]⟩ : St)) (by kernel_rfl) ⟨trivial, trivial, trivial, trivial⟩ ?_
            refine awl_conv [.freeze 34] (st' := (⟨81, [(1, [], .v (.c (.ptr 1 0))), (2, [], .v (.c (.ptr 2 0))), (5, [], .v (.c (.ptr 5 0))), (6, [], .v (.c (.cl 47 [.pt 5 0]))), (7, [], .v (.c (.ptr 7 0))), (8, [], .v (.c (.p (.int .i64) i))), (58, [], .v (.c (.own 6142))), (59, [], .v (.c (.p (.sl (.int .i64)) row)))], [(1, [], .box [.p (.int .i64) n.1, .p (.int .i64) n.2.1, .p (.sl (.pr (.int .i64) (.pr (.int .i64) (.int .i64)))) n.2.2.1, .p (.int .u32) n.2.2.2.1, .p (.int .u32) n.2.2.2.2]), (2, [], .box [.p (.int .i64) (0 : Int), .p (.int .i64) (0 : Int), .nils, .p (.int .i64) (0 : Int), .p (.int .u32) (0 : Int)]), (5, [], .box [.own 21]), (7, [], .box [.p (.int .i64) (0 : Int), .p (.int .i64) n.2.1, .own 6142, .p (.int .i64) (0 : Int), .p (.int .u32) out]), (21, [], .arr 23 (.int .u32) l212), (6142, [], .arr 26 (.sl (.int .i64)) l6142)]⟩ : St)) (by kernel_rfl) ?_
            obtain ⟨o1, h⟩ := h
            refine awl_runp 4 [1, 2, 5, 6, 7, 8] [1, 2, 5, 7, 21, 61] (ob := (True ∧ roomN (l6142.length + [row].length) ∧ True ∧ True ∧ True)) (st' := (⟨81, [(1, [], .v (.c (.ptr 1 0))), (2, [], .v (.c (.ptr 2 0))), (5, [], .v (.c (.ptr 5 0))), (6, [], .v (.c (.cl 47 [.pt 5 0]))), (7, [], .v (.c (.ptr 7 0))), (8, [], .v (.c (.p (.int .i64) i)))], [(1, [], .box [.p (.int .i64) n.1, .p (.int .i64) n.2.1, .p (.sl (.pr (.int .i64) (.pr (.int .i64) (.int .i64)))) n.2.2.1, .p (.int .u32) n.2.2.2.1, .p (.int .u32) n.2.2.2.2]), (2, [], .box [.p (.int .i64) (0 : Int), .p (.int .i64) (0 : Int), .nils, .p (.int .i64) (0 : Int), .p (.int .u32) (0 : Int)]), (5, [], .box [.own 21]), (7, [], .box [.p (.int .i64) (0 : Int), .p (.int .i64) n.2.1, .own 61, .p (.int .i64) (0 : Int), .p (.int .u32) out]), (21, [], .arr 23 (.int .u32) l212), (61, [], .arr 26 (.sl (.int .i64)) (l6142 ++ [row]))]⟩ : St)) (by kernel_rfl) ⟨trivial, o1, trivial, trivial, trivial⟩ ?_
            refine awl_nil ?_
            refine thenQ_n ?_
            refine aw_seq ?_
            refine awd_begin [] (by kernel_rfl) ?_
            obtain ⟨o1, h⟩ := h
            refine awd_runp (by kernel_rfl) [0, 1, 2, 3, 4, 5, 6, 7] [1, 2, 5, 6, 7, 8, 70] [1, 2, 5, 7, 21, 61] (ob := (True ∧ True ∧ inIdx i l212.length ∧ True ∧ True ∧ True ∧ True ∧ True ∧ True)) (done' := [7, 6, 5, 4, 3, 2, 1, 0]) (st' := (⟨81, [(1, [], .v (.c (.ptr 1 0))), (2, [], .v (.c (.ptr 2 0))), (5, [], .v (.c (.ptr 5 0))), (6, [], .v (.c (.cl 47 [.pt 5 0]))), (7, [], .v (.c (.ptr 7 0))), (8, [], .v (.c (.p (.int .i64) i))), (70, [], .v (.c (.p .bool (!decide ((bAnd .u32 (l212.getD ((i).toNat) (0 : Int)) n.2.2.2.2) = (0 : Int))))))], [(1, [], .box [.p (.int .i64) n.1, .p (.int .i64) n.2.1, .p (.sl (.pr (.int .i64) (.pr (.int .i64) (.int .i64)))) n.2.2.1, .p (.int .u32) n.2.2.2.1, .p (.int .u32) n.2.2.2.2]), (2, [], .box [.p (.int .i64) (0 : Int), .p (.int .i64) (0 : Int), .nils, .p (.int .i64) (0 : Int), .p (.int .u32) (0 : Int)]), (5, [], .box [.own 21]), (7, [], .box [.p (.int .i64) (0 : Int), .p (.int .i64) n.2.1, .own 61, .p (.int .i64) (0 : Int), .p (.int .u32) out]), (21, [], .arr 23 (.int .u32) l212), (61, [], .arr 26 (.sl (.int .i64)) (l6142 ++ [row]))]⟩ : St)) (by kernel_rfl) ⟨trivial, trivial, o1, trivial, trivial, trivial, trivial, trivial, trivial⟩ ?_
            refine awd_done (by kernel_rfl) ?_
            refine thenQ_n ?_
            refine withJoin (σ := Int) (fun s => (⟨81, [(1, [], .v (.c (.ptr 1 0))), (2, [], .v (.c (.ptr 2 0))), (5, [], .v (.c (.ptr 5 0))), (6, [], .v (.c (.cl 47 [.pt 5 0]))), (7, [], .v (.c (.ptr 7 0))), (8, [], .v (.c (.p (.int .i64) i)))], [(1, [], .box [.p (.int .i64) n.1, .p (.int .i64) n.2.1, .p (.sl (.pr (.int .i64) (.pr (.int .i64) (.int .i64)))) n.2.2.1, .p (.int .u32) n.2.2.2.1, .p (.int .u32) n.2.2.2.2]), (2, [], .box [.p (.int .i64) (0 : Int), .p (.int .i64) (0 : Int), .nils, .p (.int .i64) (0 : Int), .p (.int .u32) (0 : Int)]), (5, [], .box [.own 21]), (7, [], .box [.p (.int .i64) (0 : Int), .p (.int .i64) n.2.1, .own 61, .p (.int .i64) (0 : Int), .p (.int .u32) s]), (21, [], .arr 23 (.int .u32) l212), (61, [], .arr 26 (.sl (.int .i64)) (l6142 ++ [row]))]⟩ : St)) (fun s => VC24_k3 i l6142 X1 l212 row s) (fun out2 h => ?_) (fun rest2 => ?_)
            · have h : VC24_k3 i l6142 X1 l212 row out2 := h
              unfold VC24_k3 at h
              refine blockQ_n ?_
              refine thenQ_n ?_
              refine aw_region ?_
              obtain ⟨o1, h⟩ := h
              refine awl_runp 3 [1, 2, 5, 6, 7, 8] [1, 2, 5, 7, 21, 61] (ob := (True ∧ InR (i + (1 : Int)) ∧ True ∧ True)) (st' := (⟨81, [(1, [], .v (.c (.ptr 1 0))), (2, [], .v (.c (.ptr 2 0))), (5, [], .v (.c (.ptr 5 0))), (6, [], .v (.c (.cl 47 [.pt 5 0]))), (7, [], .v (.c (.ptr 7 0))), (8, [], .v (.c (.p (.int .i64) (i + (1 : Int)))))], [(1, [], .box [.p (.int .i64) n.1, .p (.int .i64) n.2.1, .p (.sl (.pr (.int .i64) (.pr (.int .i64) (.int .i64)))) n.2.2.1, .p (.int .u32) n.2.2.2.1, .p (.int .u32) n.2.2.2.2]), (2, [], .box [.p (.int .i64) (0 : Int), .p (.int .i64) (0 : Int), .nils, .p (.int .i64) (0 : Int), .p (.int .u32) (0 : Int)]), (5, [], .box [.own 21]), (7, [], .box [.p (.int .i64) (0 : Int), .p (.int .i64) n.2.1, .own 61, .p (.int .i64) (0 : Int), .p (.int .u32) out2]), (21, [], .arr 23 (.int .u32) l212), (61, [], .arr 26 (.sl (.int .i64)) (l6142 ++ [row]))]⟩ : St)) (by kernel_rfl) ⟨trivial, o1, trivial, trivial⟩ ?_
              refine awl_conv [.ren 61 20061, .ren 20061 6142] (st' := (⟨81, [(1, [], .v (.c (.ptr 1 0))), (2, [], .v (.c (.ptr 2 0))), (5, [], .v (.c (.ptr 5 0))), (6, [], .v (.c (.cl 47 [.pt 5 0]))), (7, [], .v (.c (.ptr 7 0))), (8, [], .v (.c (.p (.int .i64) (i + (1 : Int)))))], [(1, [], .box [.p (.int .i64) n.1, .p (.int .i64) n.2.1, .p (.sl (.pr (.int .i64) (.pr (.int .i64) (.int .i64)))) n.2.2.1, .p (.int .u32) n.2.2.2.1, .p (.int .u32) n.2.2.2.2]), (2, [], .box [.p (.int .i64) (0 : Int), .p (.int .i64) (0 : Int), .nils, .p (.int .i64) (0 : Int), .p (.int .u32) (0 : Int)]), (5, [], .box [.own 21]), (7, [], .box [.p (.int .i64) (0 : Int), .p (.int .i64) n.2.1, .own 6142, .p (.int .i64) (0 : Int), .p (.int .u32) out2]), (21, [], .arr 23 (.int .u32) l212), (6142, [], .arr 26 (.sl (.int .i64)) (l6142 ++ [row]))]⟩ : St)) (by kernel_rfl) ?_
              refine awl_nil ?_
              exact thenQ_n ⟨((i + (1 : Int)), out2, l212, (l6142 ++ [row])), rfl, h⟩
            · refine aw_cond (b := (!decide ((bAnd .u32 (l212.getD ((i).toNat) (0 : Int)) n.2.2.2.2) = (0 : Int)))) (by kernel_rfl) (fun hb => ?_) (fun hb => ?_)
              · have h := h.1 hb
                refine awd_begin [7] (by kernel_rfl) ?_
                obtain ⟨o1, h⟩ := h
                refine awd_runp (by kernel_rfl) [0, 2, 3] [1, 2, 5, 6, 7, 8, 71, 74] [1, 2, 5, 7, 21, 61] (ob := (True ∧ True ∧ 0 ≤ i ∧ True)) (done' := [3, 2, 0]) (st' := (⟨81, [(1, [], .v (.c (.ptr 1 0))), (2, [], .v (.c (.ptr 2 0))), (5, [], .v (.c (.ptr 5 0))), (6, [], .v (.c (.cl 47 [.pt 5 0]))), (7, [], .v (.c (.ptr 7 0))), (8, [], .v (.c (.p (.int .i64) i))), (71, [], .v (.c (.ptr 7 4))), (74, [], .v (.c (.p (.int .u32) (bShl .u32 (1 : Int) i))))], [(1, [], .box [.p (.int .i64) n.1, .p (.int .i64) n.2.1, .p (.sl (.pr (.int .i64) (.pr (.int .i64) (.int .i64)))) n.2.2.1, .p (.int .u32) n.2.2.2.1, .p (.int .u32) n.2.2.2.2]), (2, [], .box [.p (.int .i64) (0 : Int), .p (.int .i64) (0 : Int), .nils, .p (.int .i64) (0 : Int), .p (.int .u32) (0 : Int)]), (5, [], .box [.own 21]), (7, [], .box [.p (.int .i64) (0 : Int), .p (.int .i64) n.2.1, .own 61, .p (.int .i64) (0 : Int), .p (.int .u32) out]), (21, [], .arr 23 (.int .u32) l212), (61, [], .arr 26 (.sl (.int .i64)) (l6142 ++ [row]))]⟩ : St)) (by kernel_rfl) ⟨trivial, trivial, o1, trivial⟩ ?_
                refine awd_one (i := 1) (by kernel_rfl) ?_
                refine adop_stepp [1, 2, 5, 6, 7, 8, 72, 74] [1, 2, 5, 7, 21, 61] (ob := True) (st' := (⟨81, [(1, [], .v (.c (.ptr 1 0))), (2, [], .v (.c (.ptr 2 0))), (5, [], .v (.c (.ptr 5 0))), (6, [], .v (.c (.cl 47 [.pt 5 0]))), (7, [], .v (.c (.ptr 7 0))), (8, [], .v (.c (.p (.int .i64) i))), (72, [], .v (.c (.p (.int .u32) out))), (74, [], .v (.c (.p (.int .u32) (bShl .u32 (1 : Int) i))))], [(1, [], .box [.p (.int .i64) n.1, .p (.int .i64) n.2.1, .p (.sl (.pr (.int .i64) (.pr (.int .i64) (.int .i64)))) n.2.2.1, .p (.int .u32) n.2.2.2.1, .p (.int .u32) n.2.2.2.2]), (2, [], .box [.p (.int .i64) (0 : Int), .p (.int .i64) (0 : Int), .nils, .p (.int .i64) (0 : Int), .p (.int .u32) (0 : Int)]), (5, [], .box [.own 21]), (7, [], .box [.p (.int .i64) (0 : Int), .p (.int .i64) n.2.1, .own 61, .p (.int .i64) (0 : Int), .p (.int .u32) out]), (21, [], .arr 23 (.int .u32) l212), (61, [], .arr 26 (.sl (.int .i64)) (l6142 ++ [row]))]⟩ : St)) rfl (by kernel_rfl) trivial ?_
                refine awd_runp (by kernel_rfl) [4, 5] [1, 2, 5, 6, 7, 8, 75, 76] [1, 2, 5, 7, 21, 61] (ob := (True ∧ True ∧ True)) (done' := [5, 4, 1, 3, 2, 0]) (st' := (⟨81, [(1, [], .v (.c (.ptr 1 0))), (2, [], .v (.c (.ptr 2 0))), (5, [], .v (.c (.ptr 5 0))), (6, [], .v (.c (.cl 47 [.pt 5 0]))), (7, [], .v (.c (.ptr 7 0))), (8, [], .v (.c (.p (.int .i64) i))), (75, [], .v (.c (.p (.int .u32) (bOr .u32 out (bShl .u32 (1 : Int) i))))), (76, [], .v (.c (.ptr 7 4)))], [(1, [], .box [.p (.int .i64) n.1, .p (.int .i64) n.2.1, .p (.sl (.pr (.int .i64) (.pr (.int .i64) (.int .i64)))) n.2.2.1, .p (.int .u32) n.2.2.2.1, .p (.int .u32) n.2.2.2.2]), (2, [], .box [.p (.int .i64) (0 : Int), .p (.int .i64) (0 : Int), .nils, .p (.int .i64) (0 : Int), .p (.int .u32) (0 : Int)]), (5, [], .box [.own 21]), (7, [], .box [.p (.int .i64) (0 : Int), .p (.int .i64) n.2.1, .own 61, .p (.int .i64) (0 : Int), .p (.int .u32) out]), (21, [], .arr 23 (.int .u32) l212), (61, [], .arr 26 (.sl (.int .i64)) (l6142 ++ [row]))]⟩ : St)) (by kernel_rfl) ⟨trivial, trivial, trivial⟩ ?_
                refine awd_one (i := 6) (by kernel_rfl) ?_
                refine adop_stepp [1, 2, 5, 6, 7, 8] [1, 2, 5, 7, 21, 61] (ob := True) (st' := (⟨81, [(1, [], .v (.c (.ptr 1 0))), (2, [], .v (.c (.ptr 2 0))), (5, [], .v (.c (.ptr 5 0))), (6, [], .v (.c (.cl 47 [.pt 5 0]))), (7, [], .v (.c (.ptr 7 0))), (8, [], .v (.c (.p (.int .i64) i)))], [(1, [], .box [.p (.int .i64) n.1, .p (.int .i64) n.2.1, .p (.sl (.pr (.int .i64) (.pr (.int .i64) (.int .i64)))) n.2.2.1, .p (.int .u32) n.2.2.2.1, .p (.int .u32) n.2.2.2.2]), (2, [], .box [.p (.int .i64) (0 : Int), .p (.int .i64) (0 : Int), .nils, .p (.int .i64) (0 : Int), .p (.int .u32) (0 : Int)]), (5, [], .box [.own 21]), (7, [], .box [.p (.int .i64) (0 : Int), .p (.int .i64) n.2.1, .own 61, .p (.int .i64) (0 : Int), .p (.int .u32) (bOr .u32 out (bShl .u32 (1 : Int) i))]), (21, [], .arr 23 (.int .u32) l212), (61, [], .arr 26 (.sl (.int .i64)) (l6142 ++ [row]))]⟩ : St)) rfl (by kernel_rfl) trivial ?_
                refine awd_done (by kernel_rfl) ?_
                exact rest2 (bOr .u32 out (bShl .u32 (1 : Int) i)) h
              · have h := h.2 hb
                refine aw_conv [.prune [1, 2, 5, 6, 7, 8] [1, 2, 5, 7, 21, 61]] (st' := (⟨81, [(1, [], .v (.c (.ptr 1 0))), (2, [], .v (.c (.ptr 2 0))), (5, [], .v (.c (.ptr 5 0))), (6, [], .v (.c (.cl 47 [.pt 5 0]))), (7, [], .v (.c (.ptr 7 0))), (8, [], .v (.c (.p (.int .i64) i)))], [(1, [], .box [.p (.int .i64) n.1, .p (.int .i64) n.2.1, .p (.sl (.pr (.int .i64) (.pr (.int .i64) (.int .i64)))) n.2.2.1, .p (.int .u32) n.2.2.2.1, .p (.int .u32) n.2.2.2.2]), (2, [], .box [.p (.int .i64) (0 : Int), .p (.int .i64) (0 : Int), .nils, .p (.int .i64) (0 : Int), .p (.int .u32) (0 : Int)]), (5, [], .box [.own 21]), (7, [], .box [.p (.int .i64) (0 : Int), .p (.int .i64) n.2.1, .own 61, .p (.int .i64) (0 : Int), .p (.int .u32) out]), (21, [], .arr 23 (.int .u32) l212), (61, [], .arr 26 (.sl (.int .i64)) (l6142 ++ [row]))]⟩ : St)) (by kernel_rfl) ?_
                refine aw_skip ?_
                exact rest2 out h
        · refine aw_block ?_
          refine aw_loop (σ := Int × (List Int) × (List Int)) (fun s => (⟨81, [(1, [], .v (.c (.ptr 1 0))), (2, [], .v (.c (.ptr 2 0))), (5, [], .v (.c (.ptr 5 0))), (6, [], .v (.c (.cl 47 [.pt 5 0]))), (7, [], .v (.c (.ptr 7 0))), (8, [], .v (.c (.p (.int .i64) i))), (9, [], .v (.c (.own 34))), (36, [], .v (.c (.p (.int .i64) ((List.replicate (n.2.1).toNat (0 : Int)).length : Int)))), (37, [], .v (.c (.p (.int .i64) s.1)))], [(1, [], .box [.p (.int .i64) n.1, .p (.int .i64) n.2.1, .p (.sl (.pr (.int .i64) (.pr (.int .i64) (.int .i64)))) n.2.2.1, .p (.int .u32) n.2.2.2.1, .p (.int .u32) n.2.2.2.2]), (2, [], .box [.p (.int .i64) (0 : Int), .p (.int .i64) (0 : Int), .nils, .p (.int .i64) (0 : Int), .p (.int .u32) (0 : Int)]), (5, [], .box [.own 21]), (7, [], .box [.p (.int .i64) (0 : Int), .p (.int .i64) n.2.1, .own 6142, .p (.int .i64) (0 : Int), .p (.int .u32) out]), (21, [], .arr 23 (.int .u32) s.2.1), (34, [], .arr 3 (.int .i64) s.2.2), (6142, [], .arr 26 (.sl (.int .i64)) l6142)]⟩ : St)) (fun s X => VC24_l2 n K i out l6142 X1 s.1 s.2.1 s.2.2 X) (s0 := ((0 : Int), l21, (List.replicate (n.2.1).toNat (0 : Int)))) (fun s X2 h => ?_) h
          obtain ⟨v37, l212, row⟩ := s
          have h : VC24_l2 n K i out l6142 X1 v37 l212 row X2 := h
          unfold VC24_l2 at h
          refine aw_seq ?_
          refine aw_region ?_
          refine awl_runp 1 [1, 2, 5, 6, 7, 8, 9, 36, 37, 38] [1, 2, 5, 7, 21, 34, 6142] (ob := (True ∧ True)) (st' := (⟨81, [(1, [], .v (.c (.ptr 1 0))), (2, [], .v (.c (.ptr 2 0))), (5, [], .v (.c (.ptr 5 0))), (6, [], .v (.c (.cl 47 [.pt 5 0]))), (7, [], .v (.c (.ptr 7 0))), (8, [], .v (.c (.p (.int .i64) i))), (9, [], .v (.c (.own 34))), (36, [], .v (.c (.p (.int .i64) ((List.replicate (n.2.1).toNat (0 : Int)).length : Int)))), (37, [], .v (.c (.p (.int .i64) v37))), (38, [], .v (.c (.p .bool (decide (v37 < ((List.replicate (n.2.1).toNat (0 : Int)).length : Int))))))], [(1, [], .box [.p (.int .i64) n.1, .p (.int .i64) n.2.1, .p (.sl (.pr (.int .i64) (.pr (.int .i64) (.int .i64)))) n.2.2.1, .p (.int .u32) n.2.2.2.1, .p (.int .u32) n.2.2.2.2]), (2, [], .box [.p (.int .i64) (0 : Int), .p (.int .i64) (0 : Int), .nils, .p (.int .i64) (0 : Int), .p (.int .u32) (0 : Int)]), (5, [], .box [.own 21]), (7, [], .box [.p (.int .i64) (0 : Int), .p (.int .i64) n.2.1, .own 6142, .p (.int .i64) (0 : Int), .p (.int .u32) out]), (21, [], .arr 23 (.int .u32) l212), (34, [], .arr 3 (.int .i64) row), (6142, [], .arr 26 (.sl (.int .i64)) l6142)]⟩ : St)) (by kernel_rfl) ⟨trivial, trivial⟩ ?_
          refine awl_nil ?_
          refine thenQ_n ?_
          refine aw_seq ?_
          refine aw_cond (b := (decide (v37 < ((List.replicate (n.2.1).toNat (0 : Int)).length : Int)))) (by kernel_rfl) (fun hb => ?_) (fun hb => ?_)
          · have h := h.1 hb
            refine aw_skip ?_
            refine thenQ_n ?_
            refine aw_seq ?_
            refine aw_block ?_
            refine aw_seq ?_
            refine aw_region ?_
            refine awl_runp 2 [1, 2, 5, 6, 7, 8, 9, 10, 36, 37] [1, 2, 5, 7, 21, 34, 6142] (ob := (True ∧ True ∧ True)) (st' := (⟨81, [(1, [], .v (.c (.ptr 1 0))), (2, [], .v (.c (.ptr 2 0))), (5, [], .v (.c (.ptr 5 0))), (6, [], .v (.c (.cl 47 [.pt 5 0]))), (7, [], .v (.c (.ptr 7 0))), (8, [], .v (.c (.p (.int .i64) i))), (9, [], .v (.c (.own 34))), (10, [], .v (.c (.p (.int .i64) v37))), (36, [], .v (.c (.p (.int .i64) ((List.replicate (n.2.1).toNat (0 : Int)).length : Int)))), (37, [], .v (.c (.p (.int .i64) v37)))], [(1, [], .box [.p (.int .i64) n.1, .p (.int .i64) n.2.1, .p (.sl (.pr (.int .i64) (.pr (.int .i64) (.int .i64)))) n.2.2.1, .p (.int .u32) n.2.2.2.1, .p (.int .u32) n.2.2.2.2]), (2, [], .box [.p (.int .i64) (0 : Int), .p (.int .i64) (0 : Int), .nils, .p (.int .i64) (0 : Int), .p (.int .u32) (0 : Int)]), (5, [], .box [.own 21]), (7, [], .box [.p (.int .i64) (0 : Int), .p (.int .i64) n.2.1, .own 6142, .p (.int .i64) (0 : Int), .p (.int .u32) out]), (21, [], .arr 23 (.int .u32) l212), (34, [], .arr 3 (.int .i64) row), (6142, [], .arr 26 (.sl (.int .i64)) l6142)]⟩ : St)) (by kernel_rfl) ⟨trivial, trivial, trivial⟩ ?_
            refine awl_nil ?_
            refine thenQ_n ?_
            refine withJoin (σ := (List Int) × (List Int)) (fun s => (⟨81, [(1, [], .v (.c (.ptr 1 0))), (2, [], .v (.c (.ptr 2 0))), (5, [], .v (.c (.ptr 5 0))), (6, [], .v (.c (.cl 47 [.pt 5 0]))), (7, [], .v (.c (.ptr 7 0))), (8, [], .v (.c (.p (.int .i64) i))), (9, [], .v (.c (.own 34))), (36, [], .v (.c (.p (.int .i64) ((List.replicate (n.2.1).toNat (0 : Int)).length : Int)))), (37, [], .v (.c (.p (.int .i64) v37)))], [(1, [], .box [.p (.int .i64) n.1, .p (.int .i64) n.2.1, .p (.sl (.pr (.int .i64) (.pr (.int .i64) (.int .i64)))) n.2.2.1, .p (.int .u32) n.2.2.2.1, .p (.int .u32) n.2.2.2.2]), (2, [], .box [.p (.int .i64) (0 : Int), .p (.int .i64) (0 : Int), .nils, .p (.int .i64) (0 : Int), .p (.int .u32) (0 : Int)]), (5, [], .box [.own 21]), (7, [], .box [.p (.int .i64) (0 : Int), .p (.int .i64) n.2.1, .own 6142, .p (.int .i64) (0 : Int), .p (.int .u32) out]), (21, [], .arr 23 (.int .u32) s.1), (34, [], .arr 3 (.int .i64) s.2), (6142, [], .arr 26 (.sl (.int .i64)) l6142)]⟩ : St)) (fun s => VC24_k4 v37 X2 s.1 s.2) (fun s h => ?_) (fun rest4 => ?_)
            · obtain ⟨l213, row2⟩ := s
              have h : VC24_k4 v37 X2 l213 row2 := h
              unfold VC24_k4 at h
              refine blockQ_n ?_
              refine thenQ_n ?_
              refine aw_region ?_
              obtain ⟨o1, h⟩ := h
              refine awl_runp 2 [1, 2, 5, 6, 7, 8, 9, 36, 37] [1, 2, 5, 7, 21, 34, 6142] (ob := (InR (v37 + (1 : Int)) ∧ True ∧ True)) (st' := (⟨81, [(1, [], .v (.c (.ptr 1 0))), (2, [], .v (.c (.ptr 2 0))), (5, [], .v (.c (.ptr 5 0))), (6, [], .v (.c (.cl 47 [.pt 5 0]))), (7, [], .v (.c (.ptr 7 0))), (8, [], .v (.c (.p (.int .i64) i))), (9, [], .v (.c (.own 34))), (36, [], .v (.c (.p (.int .i64) ((List.replicate (n.2.1).toNat (0 : Int)).length : Int)))), (37, [], .v (.c (.p (.int .i64) (v37 + (1 : Int)))))], [(1, [], .box [.p (.int .i64) n.1, .p (.int .i64) n.2.1, .p (.sl (.pr (.int .i64) (.pr (.int .i64) (.int .i64)))) n.2.2.1, .p (.int .u32) n.2.2.2.1, .p (.int .u32) n.2.2.2.2]), (2, [], .box [.p (.int .i64) (0 : Int), .p (.int .i64) (0 : Int), .nils, .p (.int .i64) (0 : Int), .p (.int .u32) (0 : Int)]), (5, [], .box [.own 21]), (7, [], .box [.p (.int .i64) (0 : Int), .p (.int .i64) n.2.1, .own 6142, .p (.int .i64) (0 : Int), .p (.int .u32) out]), (21, [], .arr 23 (.int .u32) l213), (34, [], .arr 3 (.int .i64) row2), (6142, [], .arr 26 (.sl (.int .i64)) l6142)]⟩ : St)) (by kernel_rfl) ⟨o1, trivial, trivial⟩ ?_
              refine awl_nil ?_
              exact thenQ_n ⟨((v37 + (1 : Int)), l213, row2), rfl, h⟩
            · refine awd_begin [1, 2, 5, 7, 21, 34, 6142] (by kernel_rfl) ?_
              refine awd_runp (by kernel_rfl) [0, 1, 2, 5, 8] [1, 2, 5, 6, 7, 8, 9, 36, 37, 40, 41, 42, 45, 48] [1, 2, 5, 7, 21, 34, 6142] (ob := (True ∧ True ∧ True ∧ True ∧ True ∧ True)) (done' := [8, 5, 2, 1, 0]) (st' := (⟨81, [(1, [], .v (.c (.ptr 1 0))), (2, [], .v (.c (.ptr 2 0))), (5, [], .v (.c (.ptr 5 0))), (6, [], .v (.c (.cl 47 [.pt 5 0]))), (7, [], .v (.c (.ptr 7 0))), (8, [], .v (.c (.p (.int .i64) i))), (9, [], .v (.c (.own 34))), (36, [], .v (.c (.p (.int .i64) ((List.replicate (n.2.1).toNat (0 : Int)).length : Int)))), (37, [], .v (.c (.p (.int .i64) v37))), (40, [], .v (.c (.own 34))), (41, [], .v (.c (.p (.int .i64) v37))), (42, [], .v (.c (.cl 47 [.pt 5 0]))), (45, [], .v (.c (.p (.int .i64) i))), (48, [], .v (.c (.p (.int .i64) v37)))], [(1, [], .box [.p (.int .i64) n.1, .p (.int .i64) n.2.1, .p (.sl (.pr (.int .i64) (.pr (.int .i64) (.int .i64)))) n.2.2.1, .p (.int .u32) n.2.2.2.1, .p (.int .u32) n.2.2.2.2]), (2, [], .box [.p (.int .i64) (0 : Int), .p (.int .i64) (0 : Int), .nils, .p (.int .i64) (0 : Int), .p (.int .u32) (0 : Int)]), (5, [], .box [.own 21]), (7, [], .box [.p (.int .i64) (0 : Int), .p (.int .i64) n.2.1, .own 6142, .p (.int .i64) (0 : Int), .p (.int .u32) out]), (21, [], .arr 23 (.int .u32) l212), (34, [], .arr 3 (.int .i64) row), (6142, [], .arr 26 (.sl (.int .i64)) l6142)]⟩ : St)) (by kernel_rfl) ⟨trivial, trivial, trivial, trivial, trivial, trivial⟩ ?_
              refine awd_two (i := 3) (j := 4) (by kernel_rfl) ?_ ?_
              · have h := h.1
                refine adop_stepp [1, 2, 5, 6, 7, 8, 9, 36, 37, 40, 41, 42, 43, 45, 48] [1, 2, 5, 7, 21, 34, 6142] (ob := True) (st' := (⟨81, [(1, [], .v (.c (.ptr 1 0))), (2, [], .v (.c (.ptr 2 0))), (5, [], .v (.c (.ptr 5 0))), (6, [], .v (.c (.cl 47 [.pt 5 0]))), (7, [], .v (.c (.ptr 7 0))), (8, [], .v (.c (.p (.int .i64) i))), (9, [], .v (.c (.own 34))), (36, [], .v (.c (.p (.int .i64) ((List.replicate (n.2.1).toNat (0 : Int)).length : Int)))), (37, [], .v (.c (.p (.int .i64) v37))), (40, [], .v (.c (.own 34))), (41, [], .v (.c (.p (.int .i64) v37))), (42, [], .v (.c (.cl 47 [.pt 5 0]))), (43, [], .v (.agg [.p (.int .i64) n.1, .p (.int .i64) n.2.1, .p (.sl (.pr (.int .i64) (.pr (.int .i64) (.int .i64)))) n.2.2.1, .p (.int .u32) n.2.2.2.1, .p (.int .u32) n.2.2.2.2])), (45, [], .v (.c (.p (.int .i64) i))), (48, [], .v (.c (.p (.int .i64) v37)))], [(1, [], .box [.p (.int .i64) n.1, .p (.int .i64) n.2.1, .p (.sl (.pr (.int .i64) (.pr (.int .i64) (.int .i64)))) n.2.2.1, .p (.int .u32) n.2.2.2.1, .p (.int .u32) n.2.2.2.2]), (2, [], .box [.p (.int .i64) (0 : Int), .p (.int .i64) (0 : Int), .nils, .p (.int .i64) (0 : Int), .p (.int .u32) (0 : Int)]), (5, [], .box [.own 21]), (7, [], .box [.p (.int .i64) (0 : Int), .p (.int .i64) n.2.1, .own 6142, .p (.int .i64) (0 : Int), .p (.int .u32) out]), (21, [], .arr 23 (.int .u32) l212), (34, [], .arr 3 (.int .i64) row), (6142, [], .arr 26 (.sl (.int .i64)) l6142)]⟩ : St)) rfl (by kernel_rfl) trivial ?_
                refine awd_one (i := 4) (by kernel_rfl) ?_
                refine adop_stepp [1, 2, 5, 6, 7, 8, 9, 36, 37, 40, 41, 42, 43, 44, 45, 48] [1, 2, 5, 7, 21, 34, 6142] (ob := True) (st' := (⟨81, [(1, [], .v (.c (.ptr 1 0))), (2, [], .v (.c (.ptr 2 0))), (5, [], .v (.c (.ptr 5 0))), (6, [], .v (.c (.cl 47 [.pt 5 0]))), (7, [], .v (.c (.ptr 7 0))), (8, [], .v (.c (.p (.int .i64) i))), (9, [], .v (.c (.own 34))), (36, [], .v (.c (.p (.int .i64) ((List.replicate (n.2.1).toNat (0 : Int)).length : Int)))), (37, [], .v (.c (.p (.int .i64) v37))), (40, [], .v (.c (.own 34))), (41, [], .v (.c (.p (.int .i64) v37))), (42, [], .v (.c (.cl 47 [.pt 5 0]))), (43, [], .v (.agg [.p (.int .i64) n.1, .p (.int .i64) n.2.1, .p (.sl (.pr (.int .i64) (.pr (.int .i64) (.int .i64)))) n.2.2.1, .p (.int .u32) n.2.2.2.1, .p (.int .u32) n.2.2.2.2])), (44, [], .v (.c (.own 21))), (45, [], .v (.c (.p (.int .i64) i))), (48, [], .v (.c (.p (.int .i64) v37)))], [(1, [], .box [.p (.int .i64) n.1, .p (.int .i64) n.2.1, .p (.sl (.pr (.int .i64) (.pr (.int .i64) (.int .i64)))) n.2.2.1, .p (.int .u32) n.2.2.2.1, .p (.int .u32) n.2.2.2.2]), (2, [], .box [.p (.int .i64) (0 : Int), .p (.int .i64) (0 : Int), .nils, .p (.int .i64) (0 : Int), .p (.int .u32) (0 : Int)]), (5, [], .box [.own 21]), (7, [], .box [.p (.int .i64) (0 : Int), .p (.int .i64) n.2.1, .own 6142, .p (.int .i64) (0 : Int), .p (.int .u32) out]), (21, [], .arr 23 (.int .u32) l212), (34, [], .arr 3 (.int .i64) row), (6142, [], .arr 26 (.sl (.int .i64)) l6142)]⟩ : St)) rfl (by kernel_rfl) trivial ?_
                obtain ⟨o1, h⟩ := h
                refine awd_runp (by kernel_rfl) [6] [1, 2, 5, 6, 7, 8, 9, 36, 37, 40, 41, 42, 43, 46, 48] [1, 2, 5, 7, 21, 34, 6142] (ob := (inIdx i l212.length ∧ True)) (done' := [6, 4, 3, 8, 5, 2, 1, 0]) (st' := (⟨81, [(1, [], .v (.c (.ptr 1 0))), (2, [], .v (.c (.ptr 2 0))), (5, [], .v (.c (.ptr 5 0))), (6, [], .v (.c (.cl 47 [.pt 5 0]))), (7, [], .v (.c (.ptr 7 0))), (8, [], .v (.c (.p (.int .i64) i))), (9, [], .v (.c (.own 34))), (36, [], .v (.c (.p (.int .i64) ((List.replicate (n.2.1).toNat (0 : Int)).length : Int)))), (37, [], .v (.c (.p (.int .i64) v37))), (40, [], .v (.c (.own 34))), (41, [], .v (.c (.p (.int .i64) v37))), (42, [], .v (.c (.cl 47 [.pt 5 0]))), (43, [], .v (.agg [.p (.int .i64) n.1, .p (.int .i64) n.2.1, .p (.sl (.pr (.int .i64) (.pr (.int .i64) (.int .i64)))) n.2.2.1, .p (.int .u32) n.2.2.2.1, .p (.int .u32) n.2.2.2.2])), (46, [], .v (.c (.el 21 ((i).toNat) 1))), (48, [], .v (.c (.p (.int .i64) v37)))], [(1, [], .box [.p (.int .i64) n.1, .p (.int .i64) n.2.1, .p (.sl (.pr (.int .i64) (.pr (.int .i64) (.int .i64)))) n.2.2.1, .p (.int .u32) n.2.2.2.1, .p (.int .u32) n.2.2.2.2]), (2, [], .box [.p (.int .i64) (0 : Int), .p (.int .i64) (0 : Int), .nils, .p (.int .i64) (0 : Int), .p (.int .u32) (0 : Int)]), (5, [], .box [.own 21]), (7, [], .box [.p (.int .i64) (0 : Int), .p (.int .i64) n.2.1, .own 6142, .p (.int .i64) (0 : Int), .p (.int .u32) out]), (21, [], .arr 23 (.int .u32) l212), (34, [], .arr 3 (.int .i64) row), (6142, [], .arr 26 (.sl (.int .i64)) l6142)]⟩ : St)) (by kernel_rfl) ⟨o1, trivial⟩ ?_
                refine awd_one (i := 7) (by kernel_rfl) ?_
                refine adop_stepp [1, 2, 5, 6, 7, 8, 9, 36, 37, 40, 41, 42, 43, 47, 48] [1, 2, 5, 7, 21, 34, 6142] (ob := True) (st' := (⟨81, [(1, [], .v (.c (.ptr 1 0))), (2, [], .v (.c (.ptr 2 0))), (5, [], .v (.c (.ptr 5 0))), (6, [], .v (.c (.cl 47 [.pt 5 0]))), (7, [], .v (.c (.ptr 7 0))), (8, [], .v (.c (.p (.int .i64) i))), (9, [], .v (.c (.own 34))), (36, [], .v (.c (.p (.int .i64) ((List.replicate (n.2.1).toNat (0 : Int)).length : Int)))), (37, [], .v (.c (.p (.int .i64) v37))), (40, [], .v (.c (.own 34))), (41, [], .v (.c (.p (.int .i64) v37))), (42, [], .v (.c (.cl 47 [.pt 5 0]))), (43, [], .v (.agg [.p (.int .i64) n.1, .p (.int .i64) n.2.1, .p (.sl (.pr (.int .i64) (.pr (.int .i64) (.int .i64)))) n.2.2.1, .p (.int .u32) n.2.2.2.1, .p (.int .u32) n.2.2.2.2])), (47, [], .v (.c (.p (.int .u32) (l212.getD ((i).toNat) (0 : Int))))), (48, [], .v (.c (.p (.int .i64) v37)))], [(1, [], .box [.p (.int .i64) n.1, .p (.int .i64) n.2.1, .p (.sl (.pr (.int .i64) (.pr (.int .i64) (.int .i64)))) n.2.2.1, .p (.int .u32) n.2.2.2.1, .p (.int .u32) n.2.2.2.2]), (2, [], .box [.p (.int .i64) (0 : Int), .p (.int .i64) (0 : Int), .nils, .p (.int .i64) (0 : Int), .p (.int .u32) (0 : Int)]), (5, [], .box [.own 21]), (7, [], .box [.p (.int .i64) (0 : Int), .p (.int .i64) n.2.1, .own 6142, .p (.int .i64) (0 : Int), .p (.int .u32) out]), (21, [], .arr 23 (.int .u32) l212), (34, [], .arr 3 (.int .i64) row), (6142, [], .arr 26 (.sl (.int .i64)) l6142)]⟩ : St)) rfl (by kernel_rfl) trivial ?_
                refine awd_one (i := 9) (by kernel_rfl) ?_
                refine adop_callk (p := []) (l := [toV1 (.pr (.int .i64) (.pr (.int .i64) (.pr (.sl (.pr (.int .i64) (.pr (.int .i64) (.int .i64)))) (.pr (.int .u32) (.int .u32))))) n, toV1 (.int .u32) (l212.getD ((i).toNat) (0 : Int)), toV1 (.int .i64) v37]) (cl := []) false [.d (.pr (.int .i64) (.pr (.int .i64) (.pr (.sl (.pr (.int .i64) (.pr (.int .i64) (.int .i64)))) (.pr (.int .u32) (.int .u32))))), .d (.int .u32), .d (.int .i64)] [1, 2, 5, 6, 7, 8, 9, 36, 37, 40, 41, 42, 49] [1, 2, 5, 7, 21, 34, 6142] (fun (ret49v : Int) => Loop (σ := Int) (fun s X => VC24_l3 v37 l212 row X2 ret49v s X) (0 : Int)) (fun ret49v => [toV1 (.int .u32) ret49v]) (fun ret49v => (⟨81, [(1, [], .v (.c (.ptr 1 0))), (2, [], .v (.c (.ptr 2 0))), (5, [], .v (.c (.ptr 5 0))), (6, [], .v (.c (.cl 47 [.pt 5 0]))), (7, [], .v (.c (.ptr 7 0))), (8, [], .v (.c (.p (.int .i64) i))), (9, [], .v (.c (.own 34))), (36, [], .v (.c (.p (.int .i64) ((List.replicate (n.2.1).toNat (0 : Int)).length : Int)))), (37, [], .v (.c (.p (.int .i64) v37))), (40, [], .v (.c (.own 34))), (41, [], .v (.c (.p (.int .i64) v37))), (42, [], .v (.c (.cl 47 [.pt 5 0]))), (49, [], .v (.c (.p (.int .u32) ret49v)))], [(1, [], .box [.p (.int .i64) n.1, .p (.int .i64) n.2.1, .p (.sl (.pr (.int .i64) (.pr (.int .i64) (.int .i64)))) n.2.2.1, .p (.int .u32) n.2.2.2.1, .p (.int .u32) n.2.2.2.2]), (2, [], .box [.p (.int .i64) (0 : Int), .p (.int .i64) (0 : Int), .nils, .p (.int .i64) (0 : Int), .p (.int .u32) (0 : Int)]), (5, [], .box [.own 21]), (7, [], .box [.p (.int .i64) (0 : Int), .p (.int .i64) n.2.1, .own 6142, .p (.int .i64) (0 : Int), .p (.int .u32) out]), (21, [], .arr 23 (.int .u32) l212), (34, [], .arr 3 (.int .i64) row), (6142, [], .arr 26 (.sl (.int .i64)) l6142)]⟩ : St)) rfl (by kernel_rfl) rfl (by kernel_rfl) rfl (by kernel_rfl) Try.call46 (by kernel_rfl) (fun ret49v => by kernel_rfl) (fun e => by cases e) (fun hg => link46 n (l212.getD ((i).toNat) (0 : Int)) v37 _ h) (fun hg => noF hg) (fun ret49v h => ?_)
                have h : Loop (σ := Int) (fun s X => VC24_l3 v37 l212 row X2 ret49v s X) (0 : Int) := h
                refine awd_one (i := 10) (by kernel_rfl) ?_
                refine adop_inline [.c (.p (.int .u32) ret49v)] [.c (.ptr 5 0)] (r := 3) rfl rfl rfl (by kernel_rfl) rfl (by kernel_rfl) Try.call47 (by kernel_rfl) (by kernel_rfl) Try.func47 rfl rfl (by kernel_rfl) ?_
                refine aw_conv [] (st' := (⟨25, [(0, [], .v (.c (.p (.int .u32) ret49v))), (1, [], .v (.c (.ptr 5 0))), (26, [], .v (.c (.ptr 1 0))), (27, [], .v (.c (.ptr 2 0))), (30, [], .v (.c (.ptr 5 0))), (31, [], .v (.c (.cl 47 [.pt 5 0]))), (32, [], .v (.c (.ptr 7 0))), (33, [], .v (.c (.p (.int .i64) i))), (34, [], .v (.c (.own 34))), (61, [], .v (.c (.p (.int .i64) ((List.replicate (n.2.1).toNat (0 : Int)).length : Int)))), (62, [], .v (.c (.p (.int .i64) v37))), (65, [], .v (.c (.own 34))), (66, [], .v (.c (.p (.int .i64) v37))), (67, [], .v (.c (.cl 47 [.pt 5 0]))), (74, [], .v (.c (.p (.int .u32) ret49v)))], [(1, [], .box [.p (.int .i64) n.1, .p (.int .i64) n.2.1, .p (.sl (.pr (.int .i64) (.pr (.int .i64) (.int .i64)))) n.2.2.1, .p (.int .u32) n.2.2.2.1, .p (.int .u32) n.2.2.2.2]), (2, [], .box [.p (.int .i64) (0 : Int), .p (.int .i64) (0 : Int), .nils, .p (.int .i64) (0 : Int), .p (.int .u32) (0 : Int)]), (5, [], .box [.own 21]), (7, [], .box [.p (.int .i64) (0 : Int), .p (.int .i64) n.2.1, .own 6142, .p (.int .i64) (0 : Int), .p (.int .u32) out]), (21, [], .arr 23 (.int .u32) l212), (34, [], .arr 3 (.int .i64) row), (6142, [], .arr 26 (.sl (.int .i64)) l6142)]⟩ : St)) (by kernel_rfl) ?_
                refine withJoinI (σ := Int × (List Int)) (fun s => (⟨25, [(3, [], .v (.c (.p (.int .i64) s.1))), (26, [], .v (.c (.ptr 1 0))), (27, [], .v (.c (.ptr 2 0))), (30, [], .v (.c (.ptr 5 0))), (31, [], .v (.c (.cl 47 [.pt 5 0]))), (32, [], .v (.c (.ptr 7 0))), (33, [], .v (.c (.p (.int .i64) i))), (34, [], .v (.c (.own 34))), (61, [], .v (.c (.p (.int .i64) ((List.replicate (n.2.1).toNat (0 : Int)).length : Int)))), (62, [], .v (.c (.p (.int .i64) v37))), (65, [], .v (.c (.own 34))), (66, [], .v (.c (.p (.int .i64) v37)))], [(1, [], .box [.p (.int .i64) n.1, .p (.int .i64) n.2.1, .p (.sl (.pr (.int .i64) (.pr (.int .i64) (.int .i64)))) n.2.2.1, .p (.int .u32) n.2.2.2.1, .p (.int .u32) n.2.2.2.2]), (2, [], .box [.p (.int .i64) (0 : Int), .p (.int .i64) (0 : Int), .nils, .p (.int .i64) (0 : Int), .p (.int .u32) (0 : Int)]), (5, [], .box [.own 21]), (7, [], .box [.p (.int .i64) (0 : Int), .p (.int .i64) n.2.1, .own 6142, .p (.int .i64) (0 : Int), .p (.int .u32) out]), (21, [], .arr 23 (.int .u32) s.2), (34, [], .arr 3 (.int .i64) row), (6142, [], .arr 26 (.sl (.int .i64)) l6142)]⟩ : St)) (fun s => VC24_k5 v37 row X2 s.1 s.2) (fun s h => ?_) (fun rest5 => ?_)
                · obtain ⟨v3, l213⟩ := s
                  have h : VC24_k5 v37 row X2 v3 l213 := h
                  unfold VC24_k5 at h
                  refine inlQ_n (.v (.c (.p (.int .i64) v3))) (by kernel_rfl) rfl ?_
                  refine awd_conv [.prune [1, 2, 5, 6, 7, 8, 9, 36, 37, 40, 41, 50] [1, 2, 5, 7, 21, 34, 6142]] (st' := (⟨81, [(1, [], .v (.c (.ptr 1 0))), (2, [], .v (.c (.ptr 2 0))), (5, [], .v (.c (.ptr 5 0))), (6, [], .v (.c (.cl 47 [.pt 5 0]))), (7, [], .v (.c (.ptr 7 0))), (8, [], .v (.c (.p (.int .i64) i))), (9, [], .v (.c (.own 34))), (36, [], .v (.c (.p (.int .i64) ((List.replicate (n.2.1).toNat (0 : Int)).length : Int)))), (37, [], .v (.c (.p (.int .i64) v37))), (40, [], .v (.c (.own 34))), (41, [], .v (.c (.p (.int .i64) v37))), (50, [], .v (.c (.p (.int .i64) v3)))], [(1, [], .box [.p (.int .i64) n.1, .p (.int .i64) n.2.1, .p (.sl (.pr (.int .i64) (.pr (.int .i64) (.int .i64)))) n.2.2.1, .p (.int .u32) n.2.2.2.1, .p (.int .u32) n.2.2.2.2]), (2, [], .box [.p (.int .i64) (0 : Int), .p (.int .i64) (0 : Int), .nils, .p (.int .i64) (0 : Int), .p (.int .u32) (0 : Int)]), (5, [], .box [.own 21]), (7, [], .box [.p (.int .i64) (0 : Int), .p (.int .i64) n.2.1, .own 6142, .p (.int .i64) (0 : Int), .p (.int .u32) out]), (21, [], .arr 23 (.int .u32) l213), (34, [], .arr 3 (.int .i64) row), (6142, [], .arr 26 (.sl (.int .i64)) l6142)]⟩ : St)) (by kernel_rfl) rfl ?_
                  obtain ⟨o1, h⟩ := h
                  refine awd_runp (by kernel_rfl) [11] [1, 2, 5, 6, 7, 8, 9, 36, 37, 50, 51] [1, 2, 5, 7, 21, 34, 6142] (ob := (inIdx v37 row.length ∧ True)) (done' := [11, 10, 9, 7, 6, 4, 3, 8, 5, 2, 1, 0]) (st' := (⟨81, [(1, [], .v (.c (.ptr 1 0))), (2, [], .v (.c (.ptr 2 0))), (5, [], .v (.c (.ptr 5 0))), (6, [], .v (.c (.cl 47 [.pt 5 0]))), (7, [], .v (.c (.ptr 7 0))), (8, [], .v (.c (.p (.int .i64) i))), (9, [], .v (.c (.own 34))), (36, [], .v (.c (.p (.int .i64) ((List.replicate (n.2.1).toNat (0 : Int)).length : Int)))), (37, [], .v (.c (.p (.int .i64) v37))), (50, [], .v (.c (.p (.int .i64) v3))), (51, [], .v (.c (.el 34 ((v37).toNat) 1)))], [(1, [], .box [.p (.int .i64) n.1, .p (.int .i64) n.2.1, .p (.sl (.pr (.int .i64) (.pr (.int .i64) (.int .i64)))) n.2.2.1, .p (.int .u32) n.2.2.2.1, .p (.int .u32) n.2.2.2.2]), (2, [], .box [.p (.int .i64) (0 : Int), .p (.int .i64) (0 : Int), .nils, .p (.int .i64) (0 : Int), .p (.int .u32) (0 : Int)]), (5, [], .box [.own 21]), (7, [], .box [.p (.int .i64) (0 : Int), .p (.int .i64) n.2.1, .own 6142, .p (.int .i64) (0 : Int), .p (.int .u32) out]), (21, [], .arr 23 (.int .u32) l213), (34, [], .arr 3 (.int .i64) row), (6142, [], .arr 26 (.sl (.int .i64)) l6142)]⟩ : St)) (by kernel_rfl) ⟨o1, trivial⟩ ?_
                  refine awd_one (i := 12) (by kernel_rfl) ?_
                  refine adop_stepp [1, 2, 5, 6, 7, 8, 9, 36, 37] [1, 2, 5, 7, 21, 34, 6142] (ob := True) (st' := (⟨81, [(1, [], .v (.c (.ptr 1 0))), (2, [], .v (.c (.ptr 2 0))), (5, [], .v (.c (.ptr 5 0))), (6, [], .v (.c (.cl 47 [.pt 5 0]))), (7, [], .v (.c (.ptr 7 0))), (8, [], .v (.c (.p (.int .i64) i))), (9, [], .v (.c (.own 34))), (36, [], .v (.c (.p (.int .i64) ((List.replicate (n.2.1).toNat (0 : Int)).length : Int)))), (37, [], .v (.c (.p (.int .i64) v37)))], [(1, [], .box [.p (.int .i64) n.1, .p (.int .i64) n.2.1, .p (.sl (.pr (.int .i64) (.pr (.int .i64) (.int .i64)))) n.2.2.1, .p (.int .u32) n.2.2.2.1, .p (.int .u32) n.2.2.2.2]), (2, [], .box [.p (.int .i64) (0 : Int), .p (.int .i64) (0 : Int), .nils, .p (.int .i64) (0 : Int), .p (.int .u32) (0 : Int)]), (5, [], .box [.own 21]), (7, [], .box [.p (.int .i64) (0 : Int), .p (.int .i64) n.2.1, .own 6142, .p (.int .i64) (0 : Int), .p (.int .u32) out]), (21, [], .arr 23 (.int .u32) l213), (34, [], .arr 3 (.int .i64) (row.set ((v37).toNat) v3)), (6142, [], .arr 26 (.sl (.int .i64)) l6142)]⟩ : St)) rfl (by kernel_rfl) trivial ?_
                  refine awd_done (by kernel_rfl) ?_
                  exact rest4 (l213, (row.set ((v37).toNat) v3)) h
                · refine aw_seq ?_
                  refine aw_region ?_
                  refine awl_runp 1 [0, 1, 26, 27, 30, 31, 32, 33, 34, 61, 62, 65, 66] [1, 2, 5, 7, 21, 34, 6142] (ob := (True ∧ True)) (st' := (⟨25, [(0, [], .v (.c (.p (.int .u32) ret49v))), (1, [], .v (.c (.ptr 5 0))), (26, [], .v (.c (.ptr 1 0))), (27, [], .v (.c (.ptr 2 0))), (30, [], .v (.c (.ptr 5 0))), (31, [], .v (.c (.cl 47 [.pt 5 0]))), (32, [], .v (.c (.ptr 7 0))), (33, [], .v (.c (.p (.int .i64) i))), (34, [], .v (.c (.own 34))), (61, [], .v (.c (.p (.int .i64) ((List.replicate (n.2.1).toNat (0 : Int)).length : Int)))), (62, [], .v (.c (.p (.int .i64) v37))), (65, [], .v (.c (.own 34))), (66, [], .v (.c (.p (.int .i64) v37)))], [(1, [], .box [.p (.int .i64) n.1, .p (.int .i64) n.2.1, .p (.sl (.pr (.int .i64) (.pr (.int .i64) (.int .i64)))) n.2.2.1, .p (.int .u32) n.2.2.2.1, .p (.int .u32) n.2.2.2.2]), (2, [], .box [.p (.int .i64) (0 : Int), .p (.int .i64) (0 : Int), .nils, .p (.int .i64) (0 : Int), .p (.int .u32) (0 : Int)]), (5, [], .box [.own 21]), (7, [], .box [.p (.int .i64) (0 : Int), .p (.int .i64) n.2.1, .own 6142, .p (.int .i64) (0 : Int), .p (.int .u32) out]), (21, [], .arr 23 (.int .u32) l212), (34, [], .arr 3 (.int .i64) row), (6142, [], .arr 26 (.sl (.int .i64)) l6142)]⟩ : St)) (by kernel_rfl) ⟨trivial, trivial⟩ ?_
                  refine awl_nil ?_
                  refine thenQ_n ?_
                  refine aw_seq ?_
                  refine aw_seq ?_
                  refine aw_region ?_
                  refine awl_runp 3 [0, 1, 6, 7, 8, 26, 27, 30, 31, 32, 33, 34, 61, 62, 65, 66] [1, 2, 5, 7, 21, 34, 6142] (ob := (True ∧ True ∧ True ∧ True)) (st' := (⟨25, [(0, [], .v (.c (.p (.int .u32) ret49v))), (1, [], .v (.c (.ptr 5 0))), (6, [], .v (.c (.own 21))), (7, [], .v (.c (.p (.int .i64) (l212.length : Int)))), (8, [], .v (.c (.p (.int .i64) (0 : Int)))), (26, [], .v (.c (.ptr 1 0))), (27, [], .v (.c (.ptr 2 0))), (30, [], .v (.c (.ptr 5 0))), (31, [], .v (.c (.cl 47 [.pt 5 0]))), (32, [], .v (.c (.ptr 7 0))), (33, [], .v (.c (.p (.int .i64) i))), (34, [], .v (.c (.own 34))), (61, [], .v (.c (.p (.int .i64) ((List.replicate (n.2.1).toNat (0 : Int)).length : Int)))), (62, [], .v (.c (.p (.int .i64) v37))), (65, [], .v (.c (.own 34))), (66, [], .v (.c (.p (.int .i64) v37)))], [(1, [], .box [.p (.int .i64) n.1, .p (.int .i64) n.2.1, .p (.sl (.pr (.int .i64) (.pr (.int .i64) (.int .i64)))) n.2.2.1, .p (.int .u32) n.2.2.2.1, .p (.int .u32) n.2.2.2.2]), (2, [], .box [.p (.int .i64) (0 : Int), .p (.int .i64) (0 : Int), .nils, .p (.int .i64) (0 : Int), .p (.int .u32) (0 : Int)]), (5, [], .box [.own 21]), (7, [], .box [.p (.int .i64) (0 : Int), .p (.int .i64) n.2.1, .own 6142, .p (.int .i64) (0 : Int), .p (.int .u32) out]), (21, [], .arr 23 (.int .u32) l212), (34, [], .arr 3 (.int .i64) row), (6142, [], .arr 26 (.sl (.int .i64)) l6142)]⟩ : St)) (by kernel_rfl) ⟨trivial, trivial, trivial, trivial⟩ ?_
                  refine awl_nil ?_
                  refine thenQ_n ?_
                  refine withJoin (σ := Unit) (fun s => (⟨25, [(0, [], .v (.c (.p (.int .u32) ret49v))), (1, [], .v (.c (.ptr 5 0))), (26, [], .v (.c (.ptr 1 0))), (27, [], .v (.c (.ptr 2 0))), (30, [], .v (.c (.ptr 5 0))), (31, [], .v (.c (.cl 47 [.pt 5 0]))), (32, [], .v (.c (.ptr 7 0))), (33, [], .v (.c (.p (.int .i64) i))), (34, [], .v (.c (.own 34))), (61, [], .v (.c (.p (.int .i64) ((List.replicate (n.2.1).toNat (0 : Int)).length : Int)))), (62, [], .v (.c (.p (.int .i64) v37))), (65, [], .v (.c (.own 34))), (66, [], .v (.c (.p (.int .i64) v37)))], [(1, [], .box [.p (.int .i64) n.1, .p (.int .i64) n.2.1, .p (.sl (.pr (.int .i64) (.pr (.int .i64) (.int .i64)))) n.2.2.1, .p (.int .u32) n.2.2.2.1, .p (.int .u32) n.2.2.2.2]), (2, [], .box [.p (.int .i64) (0 : Int), .p (.int .i64) (0 : Int), .nils, .p (.int .i64) (0 : Int), .p (.int .u32) (0 : Int)]), (5, [], .box [.own 21]), (7, [], .box [.p (.int .i64) (0 : Int), .p (.int .i64) n.2.1, .own 6142, .p (.int .i64) (0 : Int), .p (.int .u32) out]), (21, [], .arr 23 (.int .u32) l212), (34, [], .arr 3 (.int .i64) row), (6142, [], .arr 26 (.sl (.int .i64)) l6142)]⟩ : St)) (fun s => VC24_k6 v37 l212 row X2 ret49v) (fun s h => ?_) (fun rest6 => ?_)
                  · have h : VC24_k6 v37 l212 row X2 ret49v := h
                    unfold VC24_k6 at h
                    refine thenQ_n ?_
                    refine aw_seq ?_
                    refine aw_region ?_
                    obtain ⟨o1, h⟩ := h
                    refine awl_runp 5 [1, 26, 27, 30, 31, 32, 33, 34, 61, 62, 65, 66] [1, 2, 5, 7, 21, 34, 6142] (ob := (True ∧ True ∧ True ∧ roomN (l212.length + [ret49v].length) ∧ True ∧ True)) (st' := (⟨25, [(1, [], .v (.c (.ptr 5 0))), (26, [], .v (.c (.ptr 1 0))), (27, [], .v (.c (.ptr 2 0))), (30, [], .v (.c (.ptr 5 0))), (31, [], .v (.c (.cl 47 [.pt 5 0]))), (32, [], .v (.c (.ptr 7 0))), (33, [], .v (.c (.p (.int .i64) i))), (34, [], .v (.c (.own 34))), (61, [], .v (.c (.p (.int .i64) ((List.replicate (n.2.1).toNat (0 : Int)).length : Int)))), (62, [], .v (.c (.p (.int .i64) v37))), (65, [], .v (.c (.own 34))), (66, [], .v (.c (.p (.int .i64) v37)))], [(1, [], .box [.p (.int .i64) n.1, .p (.int .i64) n.2.1, .p (.sl (.pr (.int .i64) (.pr (.int .i64) (.int .i64)))) n.2.2.1, .p (.int .u32) n.2.2.2.1, .p (.int .u32) n.2.2.2.2]), (2, [], .box [.p (.int .i64) (0 : Int), .p (.int .i64) (0 : Int), .nils, .p (.int .i64) (0 : Int), .p (.int .u32) (0 : Int)]), (5, [], .box [.own 21]), (7, [], .box [.p (.int .i64) (0 : Int), .p (.int .i64) n.2.1, .own 6142, .p (.int .i64) (0 : Int), .p (.int .u32) out]), (21, [], .arr 23 (.int .u32) (l212 ++ [ret49v])), (34, [], .arr 3 (.int .i64) row), (6142, [], .arr 26 (.sl (.int .i64)) l6142)]⟩ : St)) (by kernel_rfl) ⟨trivial, trivial, trivial, o1, trivial, trivial⟩ ?_
                    refine awl_nil ?_
                    refine thenQ_n ?_
                    refine aw_seq ?_
                    refine aw_region ?_
                    obtain ⟨o1, h⟩ := h
                    refine awl_runp 4 [3, 26, 27, 30, 31, 32, 33, 34, 61, 62, 65, 66] [1, 2, 5, 7, 21, 34, 6142] (ob := (True ∧ True ∧ InR (((l212 ++ [ret49v]).length : Int) - (1 : Int)) ∧ True ∧ True)) (st' := (⟨25, [(3, [], .v (.c (.p (.int .i64) (((l212 ++ [ret49v]).length : Int) - (1 : Int))))), (26, [], .v (.c (.ptr 1 0))), (27, [], .v (.c (.ptr 2 0))), (30, [], .v (.c (.ptr 5 0))), (31, [], .v (.c (.cl 47 [.pt 5 0]))), (32, [], .v (.c (.ptr 7 0))), (33, [], .v (.c (.p (.int .i64) i))), (34, [], .v (.c (.own 34))), (61, [], .v (.c (.p (.int .i64) ((List.replicate (n.2.1).toNat (0 : Int)).length : Int)))), (62, [], .v (.c (.p (.int .i64) v37))), (65, [], .v (.c (.own 34))), (66, [], .v (.c (.p (.int .i64) v37)))], [(1, [], .box [.p (.int .i64) n.1, .p (.int .i64) n.2.1, .p (.sl (.pr (.int .i64) (.pr (.int .i64) (.int .i64)))) n.2.2.1, .p (.int .u32) n.2.2.2.1, .p (.int .u32) n.2.2.2.2]), (2, [], .box [.p (.int .i64) (0 : Int), .p (.int .i64) (0 : Int), .nils, .p (.int .i64) (0 : Int), .p (.int .u32) (0 : Int)]), (5, [], .box [.own 21]), (7, [], .box [.p (.int .i64) (0 : Int), .p (.int .i64) n.2.1, .own 6142, .p (.int .i64) (0 : Int), .p (.int .u32) out]), (21, [], .arr 23 (.int .u32) (l212 ++ [ret49v])), (34, [], .arr 3 (.int .i64) row), (6142, [], .arr 26 (.sl (.int .i64)) l6142)]⟩ : St)) (by kernel_rfl) ⟨trivial, trivial, o1, trivial, trivial⟩ ?_
                    refine awl_nil ?_
                    refine thenQ_n ?_
                    refine aw_ret ?_
                    exact rest5 ((((l212 ++ [ret49v]).length : Int) - (1 : Int)), (l212 ++ [ret49v])) h
                  · refine aw_block ?_
                    refine aw_loop (σ := Int) (fun s => (⟨25, [(0, [], .v (.c (.p (.int .u32) ret49v))), (1, [], .v (.c (.ptr 5 0))), (6, [], .v (.c (.own 21))), (7, [], .v (.c (.p (.int .i64) (l212.length : Int)))), (8, [], .v (.c (.p (.int .i64) s))), (26, [], .v (.c (.ptr 1 0))), (27, [], .v (.c (.ptr 2 0))), (30, [], .v (.c (.ptr 5 0))), (31, [], .v (.c (.cl 47 [.pt 5 0]))), (32, [], .v (.c (.ptr 7 0))), (33, [], .v (.c (.p (.int .i64) i))), (34, [], .v (.c (.own 34))), (61, [], .v (.c (.p (.int .i64) ((List.replicate (n.2.1).toNat (0 : Int)).length : Int)))), (62, [], .v (.c (.p (.int .i64) v37))), (65, [], .v (.c (.own 34))), (66, [], .v (.c (.p (.int .i64) v37)))], [(1, [], .box [.p (.int .i64) n.1, .p (.int .i64) n.2.1, .p (.sl (.pr (.int .i64) (.pr (.int .i64) (.int .i64)))) n.2.2.1, .p (.int .u32) n.2.2.2.1, .p (.int .u32) n.2.2.2.2]), (2, [], .box [.p (.int .i64) (0 : Int), .p (.int .i64) (0 : Int), .nils, .p (.int .i64) (0 : Int), .p (.int .u32) (0 : Int)]), (5, [], .box [.own 21]), (7, [], .box [.p (.int .i64) (0 : Int), .p (.int .i64) n.2.1, .own 6142, .p (.int .i64) (0 : Int), .p (.int .u32) out]), (21, [], .arr 23 (.int .u32) l212), (34, [], .arr 3 (.int .i64) row), (6142, [], .arr 26 (.sl (.int .i64)) l6142)]⟩ : St)) (fun s X => VC24_l3 v37 l212 row X2 ret49v s X) (s0 := (0 : Int)) (fun v8 X3 h => ?_) h
                    have h : VC24_l3 v37 l212 row X2 ret49v v8 X3 := h
                    unfold VC24_l3 at h
                    refine aw_seq ?_
                    refine aw_region ?_
                    refine awl_runp 1 [0, 1, 6, 7, 8, 9, 26, 27, 30, 31, 32, 33, 34, 61, 62, 65, 66] [1, 2, 5, 7, 21, 34, 6142] (ob := (True ∧ True)) (st' := (⟨25, [(0, [], .v (.c (.p (.int .u32) ret49v))), (1, [], .v (.c (.ptr 5 0))), (6, [], .v (.c (.own 21))), (7, [], .v (.c (.p (.int .i64) (l212.length : Int)))), (8, [], .v (.c (.p (.int .i64) v8))), (9, [], .v (.c (.p .bool (decide (v8 < (l212.length : Int)))))), (26, [], .v (.c (.ptr 1 0))), (27, [], .v (.c (.ptr 2 0))), (30, [], .v (.c (.ptr 5 0))), (31, [], .v (.c (.cl 47 [.pt 5 0]))), (32, [], .v (.c (.ptr 7 0))), (33, [], .v (.c (.p (.int .i64) i))), (34, [], .v (.c (.own 34))), (61, [], .v (.c (.p (.int .i64) ((List.replicate (n.2.1).toNat (0 : Int)).length : Int)))), (62, [], .v (.c (.p (.int .i64) v37))), (65, [], .v (.c (.own 34))), (66, [], .v (.c (.p (.int .i64) v37)))], [(1, [], .box [.p (.int .i64) n.1, .p (.int .i64) n.2.1, .p (.sl (.pr (.int .i64) (.pr (.int .i64) (.int .i64)))) n.2.2.1, .p (.int .u32) n.2.2.2.1, .p (.int .u32) n.2.2.2.2]), (2, [], .box [.p (.int .i64) (0 : Int), .p (.int .i64) (0 : Int), .nils, .p (.int .i64) (0 : Int), .p (.int .u32) (0 : Int)]), (5, [], .box [.own 21]), (7, [], .box [.p (.int .i64) (0 : Int), .p (.int .i64) n.2.1, .own 6142, .p (.int .i64) (0 : Int), .p (.int .u32) out]), (21, [], .arr 23 (.int .u32) l212), (34, [], .arr 3 (.int .i64) row), (6142, [], .arr 26 (.sl (.int .i64)) l6142)]⟩ : St)) (by kernel_rfl) ⟨trivial, trivial⟩ ?_
                    refine awl_nil ?_
                    refine thenQ_n ?_
                    refine aw_seq ?_
                    refine aw_cond (b := (decide (v8 < (l212.length : Int)))) (by kernel_rfl) (fun hb => ?_) (fun hb => ?_)
                    · have h := h.1 hb
                      refine aw_skip ?_
                      refine thenQ_n ?_
                      refine aw_seq ?_
                      refine aw_block ?_
                      refine aw_seq ?_
                      refine aw_region ?_
                      obtain ⟨o1, h⟩ := h
                      refine awl_runp 5 [0, 1, 4, 5, 6, 7, 8, 26, 27, 30, 31, 32, 33, 34, 61, 62, 65, 66] [1, 2, 5, 7, 21, 34, 6142] (ob := (True ∧ inIdx v8 l212.length ∧ True ∧ True ∧ True ∧ True)) (st' := (⟨25, [(0, [], .v (.c (.p (.int .u32) ret49v))), (1, [], .v (.c (.ptr 5 0))), (4, [], .v (.c (.p (.int .i64) v8))), (5, [], .v (.c (.p (.int .u32) (l212.getD ((v8).toNat) (0 : Int))))), (6, [], .v (.c (.own 21))), (7, [], .v (.c (.p (.int .i64) (l212.length : Int)))), (8, [], .v (.c (.p (.int .i64) v8))), (26, [], .v (.c (.ptr 1 0))), (27, [], .v (.c (.ptr 2 0))), (30, [], .v (.c (.ptr 5 0))), (31, [], .v (.c (.cl 47 [.pt 5 0]))), (32, [], .v (.c (.ptr 7 0))), (33, [], .v (.c (.p (.int .i64) i))), (34, [], .v (.c (.own 34))), (61, [], .v (.c (.p (.int .i64) ((List.replicate (n.2.1).toNat (0 : Int)).length : Int)))), (62, [], .v (.c (.p (.int .i64) v37))), (65, [], .v (.c (.own 34))), (66, [], .v (.c (.p (.int .i64) v37)))], [(1, [], .box [.p (.int .i64) n.1, .p (.int .i64) n.2.1, .p (.sl (.pr (.int .i64) (.pr (.int .i64) (.int .i64)))) n.2.2.1, .p (.int .u32) n.2.2.2.1, .p (.int .u32) n.2.2.2.2]), (2, [], .box [.p (.int .i64) (0 : Int), .p (.int .i64) (0 : Int), .nils, .p (.int .i64) (0 : Int), .p (.int .u32) (0 : Int)]), (5, [], .box [.own 21]), (7, [], .box [.p (.int .i64) (0 : Int), .p (.int .i64) n.2.1, .own 6142, .p (.int .i64) (0 : Int), .p (.int .u32) out]), (21, [], .arr 23 (.int .u32) l212), (34, [], .arr 3 (.int .i64) row), (6142, [], .arr 26 (.sl (.int .i64)) l6142)]⟩ : St)) (by kernel_rfl) ⟨trivial, o1, trivial, trivial, trivial, trivial⟩ ?_
                      refine awl_nil ?_
                      refine thenQ_n ?_
                      refine aw_seq ?_
                      refine aw_region ?_
                      refine awl_runp 3 [0, 1, 4, 6, 7, 8, 15, 26, 27, 30, 31, 32, 33, 34, 61, 62, 65, 66] [1, 2, 5, 7, 21, 34, 6142] (ob := (True ∧ True ∧ True ∧ True)) (st' := (⟨25, [(0, [], .v (.c (.p (.int .u32) ret49v))), (1, [], .v (.c (.ptr 5 0))), (4, [], .v (.c (.p (.int .i64) v8))), (6, [], .v (.c (.own 21))), (7, [], .v (.c (.p (.int .i64) (l212.length : Int)))), (8, [], .v (.c (.p (.int .i64) v8))), (15, [], .v (.c (.p .bool (decide ((l212.getD ((v8).toNat) (0 : Int)) = ret49v))))), (26, [], .v (.c (.ptr 1 0))), (27, [], .v (.c (.ptr 2 0))), (30, [], .v (.c (.ptr 5 0))), (31, [], .v (.c (.cl 47 [.pt 5 0]))), (32, [], .v (.c (.ptr 7 0))), (33, [], .v (.c (.p (.int .i64) i))), (34, [], .v (.c (.own 34))), (61, [], .v (.c (.p (.int .i64) ((List.replicate (n.2.1).toNat (0 : Int)).length : Int)))), (62, [], .v (.c (.p (.int .i64) v37))), (65, [], .v (.c (.own 34))), (66, [], .v (.c (.p (.int .i64) v37)))], [(1, [], .box [.p (.int .i64) n.1, .p (.int .i64) n.2.1, .p (.sl (.pr (.int .i64) (.pr (.int .i64) (.int .i64)))) n.2.2.1, .p (.int .u32) n.2.2.2.1, .p (.int .u32) n.2.2.2.2]), (2, [], .box [.p (.int .i64) (0 : Int), .p (.int .i64) (0 : Int), .nils, .p (.int .i64) (0 : Int), .p (.int .u32) (0 : Int)]), (5, [], .box [.own 21]), (7, [], .box [.p (.int .i64) (0 : Int), .p (.int .i64) n.2.1, .own 6142, .p (.int .i64) (0 : Int), .p (.int .u32) out]), (21, [], .arr 23 (.int .u32) l212), (34, [], .arr 3 (.int .i64) row), (6142, [], .arr 26 (.sl (.int .i64)) l6142)]⟩ : St)) (by kernel_rfl) ⟨trivial, trivial, trivial, trivial⟩ ?_
                      refine awl_nil ?_
                      refine thenQ_n ?_
                      refine aw_cond (b := (decide ((l212.getD ((v8).toNat) (0 : Int)) = ret49v))) (by kernel_rfl) (fun hb => ?_) (fun hb => ?_)
                      · have h := h.1 hb
                        refine aw_seq ?_
                        refine aw_region ?_
                        refine awl_runp 2 [3, 26, 27, 30, 31, 32, 33, 34, 61, 62, 65, 66] [1, 2, 5, 7, 21, 34, 6142] (ob := (True ∧ True ∧ True)) (st' := (⟨25, [(3, [], .v (.c (.p (.int .i64) v8))), (26, [], .v (.c (.ptr 1 0))), (27, [], .v (.c (.ptr 2 0))), (30, [], .v (.c (.ptr 5 0))), (31, [], .v (.c (.cl 47 [.pt 5 0]))), (32, [], .v (.c (.ptr 7 0))), (33, [], .v (.c (.p (.int .i64) i))), (34, [], .v (.c (.own 34))), (61, [], .v (.c (.p (.int .i64) ((List.replicate (n.2.1).toNat (0 : Int)).length : Int)))), (62, [], .v (.c (.p (.int .i64) v37))), (65, [], .v (.c (.own 34))), (66, [], .v (.c (.p (.int .i64) v37)))], [(1, [], .box [.p (.int .i64) n.1, .p (.int .i64) n.2.1, .p (.sl (.pr (.int .i64) (.pr (.int .i64) (.int .i64)))) n.2.2.1, .p (.int .u32) n.2.2.2.1, .p (.int .u32) n.2.2.2.2]), (2, [], .box [.p (.int .i64) (0 : Int), .p (.int .i64) (0 : Int), .nils, .p (.int .i64) (0 : Int), .p (.int .u32) (0 : Int)]), (5, [], .box [.own 21]), (7, [], .box [.p (.int .i64) (0 : Int), .p (.int .i64) n.2.1, .own 6142, .p (.int .i64) (0 : Int), .p (.int .u32) out]), (21, [], .arr 23 (.int .u32) l212), (34, [], .arr 3 (.int .i64) row), (6142, [], .arr 26 (.sl (.int .i64)) l6142)]⟩ : St)) (by kernel_rfl) ⟨trivial, trivial, trivial⟩ ?_
                        refine awl_nil ?_
                        refine thenQ_n ?_
                        refine aw_ret ?_
                        refine blockQ_r ?_
                        refine thenQ_r ?_
                        refine thenQ_r ?_
                        refine blockQ_r ?_
                        refine thenQ_r ?_
                        exact rest5 (v8, l212) h
                      · have h := h.2 hb
                        refine aw_skip ?_
                        refine blockQ_n ?_
                        refine thenQ_n ?_
                        refine aw_region ?_
                        obtain ⟨o1, h⟩ := h
                        refine awl_runp 2 [0, 1, 6, 7, 8, 26, 27, 30, 31, 32, 33, 34, 61, 62, 65, 66] [1, 2, 5, 7, 21, 34, 6142] (ob := (InR (v8 + (1 : Int)) ∧ True ∧ True)) (st' := (⟨25, [(0, [], .v (.c (.p (.int .u32) ret49v))), (1, [], .v (.c (.ptr 5 0))), (6, [], .v (.c (.own 21))), (7, [], .v (.c (.p (.int .i64) (l212.length : Int)))), (8, [], .v (.c (.p (.int .i64) (v8 + (1 : Int))))), (26, [], .v (.c (.ptr 1 0))), (27, [], .v (.c (.ptr 2 0))), (30, [], .v (.c (.ptr 5 0))), (31, [], .v (.c (.cl 47 [.pt 5 0]))), (32, [], .v (.c (.ptr 7 0))), (33, [], .v (.c (.p (.int .i64) i))), (34, [], .v (.c (.own 34))), (61, [], .v (.c (.p (.int .i64) ((List.replicate (n.2.1).toNat (0 : Int)).length : Int)))), (62, [], .v (.c (.p (.int .i64) v37))), (65, [], .v (.c (.own 34))), (66, [], .v (.c (.p (.int .i64) v37)))], [(1, [], .box [.p (.int .i64) n.1, .p (.int .i64) n.2.1, .p (.sl (.pr (.int .i64) (.pr (.int .i64) (.int .i64)))) n.2.2.1, .p (.int .u32) n.2.2.2.1, .p (.int .u32) n.2.2.2.2]), (2, [], .box [.p (.int .i64) (0 : Int), .p (.int .i64) (0 : Int), .nils, .p (.int .i64) (0 : Int), .p (.int .u32) (0 : Int)]), (5, [], .box [.own 21]), (7, [], .box [.p (.int .i64) (0 : Int), .p (.int .i64) n.2.1, .own 6142, .p (.int .i64) (0 : Int), .p (.int .u32) out]), (21, [], .arr 23 (.int .u32) l212), (34, [], .arr 3 (.int .i64) row), (6142, [], .arr 26 (.sl (.int .i64)) l6142)]⟩ : St)) (by kernel_rfl) ⟨o1, trivial, trivial⟩ ?_
                        refine awl_nil ?_
                        exact thenQ_n ⟨(v8 + (1 : Int)), rfl, h⟩
                    · have h := h.2 hb
                      refine aw_conv [.prune [0, 1, 26, 27, 30, 31, 32, 33, 34, 61, 62, 65, 66] [1, 2, 5, 7, 21, 34, 6142]] (st' := (⟨25, [(0, [], .v (.c (.p (.int .u32) ret49v))), (1, [], .v (.c (.ptr 5 0))), (26, [], .v (.c (.ptr 1 0))), (27, [], .v (.c (.ptr 2 0))), (30, [], .v (.c (.ptr 5 0))), (31, [], .v (.c (.cl 47 [.pt 5 0]))), (32, [], .v (.c (.ptr 7 0))), (33, [], .v (.c (.p (.int .i64) i))), (34, [], .v (.c (.own 34))), (61, [], .v (.c (.p (.int .i64) ((List.replicate (n.2.1).toNat (0 : Int)).length : Int)))), (62, [], .v (.c (.p (.int .i64) v37))), (65, [], .v (.c (.own 34))), (66, [], .v (.c (.p (.int .i64) v37)))], [(1, [], .box [.p (.int .i64) n.1, .p (.int .i64) n.2.1, .p (.sl (.pr (.int .i64) (.pr (.int .i64) (.int .i64)))) n.2.2.1, .p (.int .u32) n.2.2.2.1, .p (.int .u32) n.2.2.2.2]), (2, [], .box [.p (.int .i64) (0 : Int), .p (.int .i64) (0 : Int), .nils, .p (.int .i64) (0 : Int), .p (.int .u32) (0 : Int)]), (5, [], .box [.own 21]), (7, [], .box [.p (.int .i64) (0 : Int), .p (.int .i64) n.2.1, .own 6142, .p (.int .i64) (0 : Int), .p (.int .u32) out]), (21, [], .arr 23 (.int .u32) l212), (34, [], .arr 3 (.int .i64) row), (6142, [], .arr 26 (.sl (.int .i64)) l6142)]⟩ : St)) (by kernel_rfl) ?_
                      refine aw_exit ?_
                      refine thenQ_x ?_
                      refine thenQ_x ?_
                      refine blockQ_hit ?_
                      exact rest6 () h
              · have h := h.2
                refine adop_stepp [1, 2, 5, 6, 7, 8, 9, 36, 37, 40, 41, 42, 44, 45, 48] [1, 2, 5, 7, 21, 34, 6142] (ob := True) (st' := (⟨81, [(1, [], .v (.c (.ptr 1 0))), (2, [], .v (.c (.ptr 2 0))), (5, [], .v (.c (.ptr 5 0))), (6, [], .v (.c (.cl 47 [.pt 5 0]))), (7, [], .v (.c (.ptr 7 0))), (8, [], .v (.c (.p (.int .i64) i))), (9, [], .v (.c (.own 34))), (36, [], .v (.c (.p (.int .i64) ((List.replicate (n.2.1).toNat (0 : Int)).length : Int)))), (37, [], .v (.c (.p (.int .i64) v37))), (40, [], .v (.c (.own 34))), (41, [], .v (.c (.p (.int .i64) v37))), (42, [], .v (.c (.cl 47 [.pt 5 0]))), (44, [], .v (.c (.own 21))), (45, [], .v (.c (.p (.int .i64) i))), (48, [], .v (.c (.p (.int .i64) v37)))], [(1, [], .box [.p (.int .i64) n.1, .p (.int .i64) n.2.1, .p (.sl (.pr (.int .i64) (.pr (.int .i64) (.int .i64)))) n.2.2.1, .p (.int .u32) n.2.2.2.1, .p (.int .u32) n.2.2.2.2]), (2, [], .box [.p (.int .i64) (0 : Int), .p (.int .i64) (0 : Int), .nils, .p (.int .i64) (0 : Int), .p (.int .u32) (0 : Int)]), (5, [], .box [.own 21]), (7, [], .box [.p (.int .i64) (0 : Int), .p (.int .i64) n.2.1, .own 6142, .p (.int .i64) (0 : Int), .p (.int .u32) out]), (21, [], .arr 23 (.int .u32) l212), (34, [], .arr 3 (.int .i64) row), (6142, [], .arr 26 (.sl (.int .i64)) l6142)]⟩ : St)) rfl (by kernel_rfl) trivial ?_
                obtain ⟨o1, h⟩ := h
                refine awd_runp (by kernel_rfl) [6] [1, 2, 5, 6, 7, 8, 9, 36, 37, 40, 41, 42, 46, 48] [1, 2, 5, 7, 21, 34, 6142] (ob := (inIdx i l212.length ∧ True)) (done' := [6, 4, 8, 5, 2, 1, 0]) (st' := (⟨81, [(1, [], .v (.c (.ptr 1 0))), (2, [], .v (.c (.ptr 2 0))), (5, [], .v (.c (.ptr 5 0))), (6, [], .v (.c (.cl 47 [.pt 5 0]))), (7, [], .v (.c (.ptr 7 0))), (8, [], .v (.c (.p (.int .i64) i))), (9, [], .v (.c (.own 34))), (36, [], .v (.c (.p (.int .i64) ((List.replicate (n.2.1).toNat (0 : Int)).length : Int)))), (37, [], .v (.c (.p (.int .i64) v37))), (40, [], .v (.c (.own 34))), (41, [], .v (.c (.p (.int .i64) v37))), (42, [], .v (.c (.cl 47 [.pt 5 0]))), (46, [], .v (.c (.el 21 ((i).toNat) 1))), (48, [], .v (.c (.p (.int .i64) v37)))], [(1, [], .box [.p (.int .i64) n.1, .p (.int .i64) n.2.1, .p (.sl (.pr (.int .i64) (.pr (.int .i64) (.int .i64)))) n.2.2.1, .p (.int .u32) n.2.2.2.1, .p (.int .u32) n.2.2.2.2]), (2, [], .box [.p (.int .i64) (0 : Int), .p (.int .i64) (0 : Int), .nils, .p (.int .i64) (0 : Int), .p (.int .u32) (0 : Int)]), (5, [], .box [.own 21]), (7, [], .box [.p (.int .i64) (0 : Int), .p (.int .i64) n.2.1, .own 6142, .p (.int .i64) (0 : Int), .p (.int .u32) out]), (21, [], .arr 23 (.int .u32) l212), (34, [], .arr 3 (.int .i64) row), (6142, [], .arr 26 (.sl (.int .i64)) l6142)]⟩ : St)) (by kernel_rfl) ⟨o1, trivial⟩ ?_
                refine awd_two (i := 3) (j := 7) (by kernel_rfl) ?_ ?_
                · have h := h.1
                  refine adop_stepp [1, 2, 5, 6, 7, 8, 9, 36, 37, 40, 41, 42, 43, 46, 48] [1, 2, 5, 7, 21, 34, 6142] (ob := True) (st' := (⟨81, [(1, [], .v (.c (.ptr 1 0))), (2, [], .v (.c (.ptr 2 0))), (5, [], .v (.c (.ptr 5 0))), (6, [], .v (.c (.cl 47 [.pt 5 0]))), (7, [], .v (.c (.ptr 7 0))), (8, [], .v (.c (.p (.int .i64) i))), (9, [], .v (.c (.own 34))), (36, [], .v (.c (.p (.int .i64) ((List.replicate (n.2.1).toNat (0 : Int)).length : Int)))), (37, [], .v (.c (.p (.int .i64) v37))), (40, [], .v (.c (.own 34))), (41, [], .v (.c (.p (.int .i64) v37))), (42, [], .v (.c (.cl 47 [.pt 5 0]))), (43, [], .v (.agg [.p (.int .i64) n.1, .p (.int .i64) n.2.1, .p (.sl (.pr (.int .i64) (.pr (.int .i64) (.int .i64)))) n.2.2.1, .p (.int .u32) n.2.2.2.1, .p (.int .u32) n.2.2.2.2])), (46, [], .v (.c (.el 21 ((i).toNat) 1))), (48, [], .v (.c (.p (.int .i64) v37)))], [(1, [], .box [.p (.int .i64) n.1, .p (.int .i64) n.2.1, .p (.sl (.pr (.int .i64) (.pr (.int .i64) (.int .i64)))) n.2.2.1, .p (.int .u32) n.2.2.2.1, .p (.int .u32) n.2.2.2.2]), (2, [], .box [.p (.int .i64) (0 : Int), .p (.int .i64) (0 : Int), .nils, .p (.int .i64) (0 : Int), .p (.int .u32) (0 : Int)]), (5, [], .box [.own 21]), (7, [], .box [.p (.int .i64) (0 : Int), .p (.int .i64) n.2.1, .own 6142, .p (.int .i64) (0 : Int), .p (.int .u32) out]), (21, [], .arr 23 (.int .u32) l212), (34, [], .arr 3 (.int .i64) row), (6142, [], .arr 26 (.sl (.int .i64)) l6142)]⟩ : St)) rfl (by kernel_rfl) trivial ?_
                  refine awd_one (i := 7) (by kernel_rfl) ?_
                  refine adop_stepp [1, 2, 5, 6, 7, 8, 9, 36, 37, 40, 41, 42, 43, 47, 48] [1, 2, 5, 7, 21, 34, 6142] (ob := True) (st' := (⟨81, [(1, [], .v (.c (.ptr 1 0))), (2, [], .v (.c (.ptr 2 0))), (5, [], .v (.c (.ptr 5 0))), (6, [], .v (.c (.cl 47 [.pt 5 0]))), (7, [], .v (.c (.ptr 7 0))), (8, [], .v (.c (.p (.int .i64) i))), (9, [], .v (.c (.own 34))), (36, [], .v (.c (.p (.int .i64) ((List.replicate (n.2.1).toNat (0 : Int)).length : Int)))), (37, [], .v (.c (.p (.int .i64) v37))), (40, [], .v (.c (.own 34))), (41, [], .v (.c (.p (.int .i64) v37))), (42, [], .v (.c (.cl 47 [.pt 5 0]))), (43, [], .v (.agg [.p (.int .i64) n.1, .p (.int .i64) n.2.1, .p (.sl (.pr (.int .i64) (.pr (.int .i64) (.int .i64)))) n.2.2.1, .p (.int .u32) n.2.2.2.1, .p (.int .u32) n.2.2.2.2])), (47, [], .v (.c (.p (.int .u32) (l212.getD ((i).toNat) (0 : Int))))), (48, [], .v (.c (.p (.int .i64) v37)))], [(1, [], .box [.p (.int .i64) n.1, .p (.int .i64) n.2.1, .p (.sl (.pr (.int .i64) (.pr (.int .i64) (.int .i64)))) n.2.2.1, .p (.int .u32) n.2.2.2.1, .p (.int .u32) n.2.2.2.2]), (2, [], .box [.p (.int .i64) (0 : Int), .p (.int .i64) (0 : Int), .nils, .p (.int .i64) (0 : Int), .p (.int .u32) (0 : Int)]), (5, [], .box [.own 21]), (7, [], .box [.p (.int .i64) (0 : Int), .p (.int .i64) n.2.1, .own 6142, .p (.int .i64) (0 : Int), .p (.int .u32) out]), (21, [], .arr 23 (.int .u32) l212), (34, [], .arr 3 (.int .i64) row), (6142, [], .arr 26 (.sl (.int .i64)) l6142)]⟩ : St)) rfl (by kernel_rfl) trivial ?_
                  refine awd_one (i := 9) (by kernel_rfl) ?_
                  refine adop_callk (p := []) (l := [toV1 (.pr (.int .i64) (.pr (.int .i64) (.pr (.sl (.pr (.int .i64) (.pr (.int .i64) (.int .i64)))) (.pr (.int .u32) (.int .u32))))) n, toV1 (.int .u32) (l212.getD ((i).toNat) (0 : Int)), toV1 (.int .i64) v37]) (cl := []) false [.d (.pr (.int .i64) (.pr (.int .i64) (.pr (.sl (.pr (.int .i64) (.pr (.int .i64) (.int .i64)))) (.pr (.int .u32) (.int .u32))))), .d (.int .u32), .d (.int .i64)] [1, 2, 5, 6, 7, 8, 9, 36, 37, 40, 41, 42, 49] [1, 2, 5, 7, 21, 34, 6142] (fun (ret49v : Int) => Loop (σ := Int) (fun s X => VC24_l4 v37 l212 row X2 ret49v s X) (0 : Int)) (fun ret49v => [toV1 (.int .u32) ret49v]) (fun ret49v => (⟨81, [(1, [], .v (.c (.ptr 1 0))), (2, [], .v (.c (.ptr 2 0))), (5, [], .v (.c (.ptr 5 0))), (6, [], .v (.c (.cl 47 [.pt 5 0]))), (7, [], .v (.c (.ptr 7 0))), (8, [], .v (.c (.p (.int .i64) i))), (9, [], .v (.c (.own 34))), (36, [], .v (.c (.p (.int .i64) ((List.replicate (n.2.1).toNat (0 : Int)).length : Int)))), (37, [], .v (.c (.p (.int .i64) v37))), (40, [], .v (.c (.own 34))), (41, [], .v (.c (.p (.int .i64) v37))), (42, [], .v (.c (.cl 47 [.pt 5 0]))), (49, [], .v (.c (.p (.int .u32) ret49v)))], [(1, [], .box [.p (.int .i64) n.1, .p (.int .i64) n.2.1, .p (.sl (.pr (.int .i64) (.pr (.int .i64) (.int .i64)))) n.2.2.1, .p (.int .u32) n.2.2.2.1, .p (.int .u32) n.2.2.2.2]), (2, [], .box [.p (.int .i64) (0 : Int), .p (.int .i64) (0 : Int), .nils, .p (.int .i64) (0 : Int), .p (.int .u32) (0 : Int)]), (5, [], .box [.own 21]), (7, [], .box [.p (.int .i64) (0 : Int), .p (.int .i64) n.2.1, .own 6142, .p (.int .i64) (0 : Int), .p (.int .u32) out]), (21, [], .arr 23 (.int .u32) l212), (34, [], .arr 3 (.int .i64) row), (6142, [], .arr 26 (.sl (.int .i64)) l6142)]⟩ : St)) rfl (by kernel_rfl) rfl (by kernel_rfl) rfl (by kernel_rfl) Try.call46 (by kernel_rfl) (fun ret49v => by kernel_rfl) (fun e => by cases e) (fun hg => link46 n (l212.getD ((i).toNat) (0 : Int)) v37 _ h) (fun hg => noF hg) (fun ret49v h => ?_)
                  have h : Loop (σ := Int) (fun s X => VC24_l4 v37 l212 row X2 ret49v s X) (0 : Int) := h
                  refine awd_one (i := 10) (by kernel_rfl) ?_
                  refine adop_inline [.c (.p (.int .u32) ret49v)] [.c (.ptr 5 0)] (r := 3) rfl rfl rfl (by kernel_rfl) rfl (by kernel_rfl) Try.call47 (by kernel_rfl) (by kernel_rfl) Try.func47 rfl rfl (by kernel_rfl) ?_
                  refine aw_conv [] (st' := (⟨25, [(0, [], .v (.c (.p (.int .u32) ret49v))), (1, [], .v (.c (.ptr 5 0))), (26, [], .v (.c (.ptr 1 0))), (27, [], .v (.c (.ptr 2 0))), (30, [], .v (.c (.ptr 5 0))), (31, [], .v (.c (.cl 47 [.pt 5 0]))), (32, [], .v (.c (.ptr 7 0))), (33, [], .v (.c (.p (.int .i64) i))), (34, [], .v (.c (.own 34))), (61, [], .v (.c (.p (.int .i64) ((List.replicate (n.2.1).toNat (0 : Int)).length : Int)))), (62, [], .v (.c (.p (.int .i64) v37))), (65, [], .v (.c (.own 34))), (66, [], .v (.c (.p (.int .i64) v37))), (67, [], .v (.c (.cl 47 [.pt 5 0]))), (74, [], .v (.c (.p (.int .u32) ret49v)))], [(1, [], .box [.p (.int .i64) n.1, .p (.int .i64) n.2.1, .p (.sl (.pr (.int .i64) (.pr (.int .i64) (.int .i64)))) n.2.2.1, .p (.int .u32) n.2.2.2.1, .p (.int .u32) n.2.2.2.2]), (2, [], .box [.p (.int .i64) (0 : Int), .p (.int .i64) (0 : Int), .nils, .p (.int .i64) (0 : Int), .p (.int .u32) (0 : Int)]), (5, [], .box [.own 21]), (7, [], .box [.p (.int .i64) (0 : Int), .p (.int .i64) n.2.1, .own 6142, .p (.int .i64) (0 : Int), .p (.int .u32) out]), (21, [], .arr 23 (.int .u32) l212), (34, [], .arr 3 (.int .i64) row), (6142, [], .arr 26 (.sl (.int .i64)) l6142)]⟩ : St)) (by kernel_rfl) ?_
                  refine withJoinI (σ := Int × (List Int)) (fun s => (⟨25, [(3, [], .v (.c (.p (.int .i64) s.1))), (26, [], .v (.c (.ptr 1 0))), (27, [], .v (.c (.ptr 2 0))), (30, [], .v (.c (.ptr 5 0))), (31, [], .v (.c (.cl 47 [.pt 5 0]))), (32, [], .v (.c (.ptr 7 0))), (33, [], .v (.c (.p (.int .i64) i))), (34, [], .v (.c (.own 34))), (61, [], .v (.c (.p (.int .i64) ((List.replicate (n.2.1).toNat (0 : Int)).length : Int)))), (62, [], .v (.c (.p (.int .i64) v37))), (65, [], .v (.c (.own 34))), (66, [], .v (.c (.p (.int .i64) v37)))], [(1, [], .box [.p (.int .i64) n.1, .p (.int .i64) n.2.1, .p (.sl (.pr (.int .i64) (.pr (.int .i64) (.int .i64)))) n.2.2.1, .p (.int .u32) n.2.2.2.1, .p (.int .u32) n.2.2.2.2]), (2, [], .box [.p (.int .i64) (0 : Int), .p (.int .i64) (0 : Int), .nils, .p (.int .i64) (0 : Int), .p (.int .u32) (0 : Int)]), (5, [], .box [.own 21]), (7, [], .box [.p (.int .i64) (0 : Int), .p (.int .i64) n.2.1, .own 6142, .p (.int .i64) (0 : Int), .p (.int .u32) out]), (21, [], .arr 23 (.int .u32) s.2), (34, [], .arr 3 (.int .i64) row), (6142, [], .arr 26 (.sl (.int .i64)) l6142)]⟩ : St)) (fun s => VC24_k7 v37 row X2 s.1 s.2) (fun s h => ?_) (fun rest7 => ?_)
                  · obtain ⟨v3, l213⟩ := s
                    have h : VC24_k7 v37 row X2 v3 l213 := h
                    unfold VC24_k7 at h
                    refine inlQ_n (.v (.c (.p (.int .i64) v3))) (by kernel_rfl) rfl ?_
                    refine awd_conv [.prune [1, 2, 5, 6, 7, 8, 9, 36, 37, 40, 41, 50] [1, 2, 5, 7, 21, 34, 6142]] (st' := (⟨81, [(1, [], .v (.c (.ptr 1 0))), (2, [], .v (.c (.ptr 2 0))), (5, [], .v (.c (.ptr 5 0))), (6, [], .v (.c (.cl 47 [.pt 5 0]))), (7, [], .v (.c (.ptr 7 0))), (8, [], .v (.c (.p (.int .i64) i))), (9, [], .v (.c (.own 34))), (36, [], .v (.c (.p (.int .i64) ((List.replicate (n.2.1).toNat (0 : Int)).length : Int)))), (37, [], .v (.c (.p (.int .i64) v37))), (40, [], .v (.c (.own 34))), (41, [], .v (.c (.p (.int .i64) v37))), (50, [], .v (.c (.p (.int .i64) v3)))], [(1, [], .box [.p (.int .i64) n.1, .p (.int .i64) n.2.1, .p (.sl (.pr (.int .i64) (.pr (.int .i64) (.int .i64)))) n.2.2.1, .p (.int .u32) n.2.2.2.1, .p (.int .u32) n.2.2.2.2]), (2, [], .box [.p (.int .i64) (0 : Int), .p (.int .i64) (0 : Int), .nils, .p (.int .i64) (0 : Int), .p (.int .u32) (0 : Int)]), (5, [], .box [.own 21]), (7, [], .box [.p (.int .i64) (0 : Int), .p (.int .i64) n.2.1, .own 6142, .p (.int .i64) (0 : Int), .p (.int .u32) out]), (21, [], .arr 23 (.int .u32) l213), (34, [], .arr 3 (.int .i64) row), (6142, [], .arr 26 (.sl (.int .i64)) l6142)]⟩ : St)) (by kernel_rfl) rfl ?_
                    obtain ⟨o1, h⟩ := h
                    refine awd_runp (by kernel_rfl) [11] [1, 2, 5, 6, 7, 8, 9, 36, 37, 50, 51] [1, 2, 5, 7, 21, 34, 6142] (ob := (inIdx v37 row.length ∧ True)) (done' := [11, 10, 9, 7, 3, 6, 4, 8, 5, 2, 1, 0]) (st' := (⟨81, [(1, [], .v (.c (.ptr 1 0))), (2, [], .v (.c (.ptr 2 0))), (5, [], .v (.c (.ptr 5 0))), (6, [], .v (.c (.cl 47 [.pt 5 0]))), (7, [], .v (.c (.ptr 7 0))), (8, [], .v (.c (.p (.int .i64) i))), (9, [], .v (.c (.own 34))), (36, [], .v (.c (.p (.int .i64) ((List.replicate (n.2.1).toNat (0 : Int)).length : Int)))), (37, [], .v (.c (.p (.int .i64) v37))), (50, [], .v (.c (.p (.int .i64) v3))), (51, [], .v (.c (.el 34 ((v37).toNat) 1)))], [(1, [], .box [.p (.int .i64) n.1, .p (.int .i64) n.2.1, .p (.sl (.pr (.int .i64) (.pr (.int .i64) (.int .i64)))) n.2.2.1, .p (.int .u32) n.2.2.2.1, .p (.int .u32) n.2.2.2.2]), (2, [], .box [.p (.int .i64) (0 : Int), .p (.int .i64) (0 : Int), .nils, .p (.int .i64) (0 : Int), .p (.int .u32) (0 : Int)]), (5, [], .box [.own 21]), (7, [], .box [.p (.int .i64) (0 : Int), .p (.int .i64) n.2.1, .own 6142, .p (.int .i64) (0 : Int), .p (.int .u32) out]), (21, [], .arr 23 (.int .u32) l213), (34, [], .arr 3 (.int .i64) row), (6142, [], .arr 26 (.sl (.int .i64)) l6142)]⟩ : St)) (by kernel_rfl) ⟨o1, trivial⟩ ?_
                    refine awd_one (i := 12) (by kernel_rfl) ?_
                    refine adop_stepp [1, 2, 5, 6, 7, 8, 9, 36, 37] [1, 2, 5, 7, 21, 34, 6142] (ob := True) (st' := (⟨81, [(1, [], .v (.c (.ptr 1 0))), (2, [], .v (.c (.ptr 2 0))), (5, [], .v (.c (.ptr 5 0))), (6, [], .v (.c (.cl 47 [.pt 5 0]))), (7, [], .v (.c (.ptr 7 0))), (8, [], .v (.c (.p (.int .i64) i))), (9, [], .v (.c (.own 34))), (36, [], .v (.c (.p (.int .i64) ((List.replicate (n.2.1).toNat (0 : Int)).length : Int)))), (37, [], .v (.c (.p (.int .i64) v37)))], [(1, [], .box [.p (.int .i64) n.1, .p (.int .i64) n.2.1, .p (.sl (.pr (.int .i64) (.pr (.int .i64) (.int .i64)))) n.2.2.1, .p (.int .u32) n.2.2.2.1, .p (.int .u32) n.2.2.2.2]), (2, [], .box [.p (.int .i64) (0 : Int), .p (.int .i64) (0 : Int), .nils, .p (.int .i64) (0 : Int), .p (.int .u32) (0 : Int)]), (5, [], .box [.own 21]), (7, [], .box [.p (.int .i64) (0 : Int), .p (.int .i64) n.2.1, .own 6142, .p (.int .i64) (0 : Int), .p (.int .u32) out]), (21, [], .arr 23 (.int .u32) l213), (34, [], .arr 3 (.int .i64) (row.set ((v37).toNat) v3)), (6142, [], .arr 26 (.sl (.int .i64)) l6142)]⟩ : St)) rfl (by kernel_rfl) trivial ?_
                    refine awd_done (by kernel_rfl) ?_
                    exact rest4 (l213, (row.set ((v37).toNat) v3)) h
                  · refine aw_seq ?_
                    refine aw_region ?_
                    refine awl_runp 1 [0, 1, 26, 27, 30, 31, 32, 33, 34, 61, 62, 65, 66] [1, 2, 5, 7, 21, 34, 6142] (ob := (True ∧ True)) (st' := (⟨25, [(0, [], .v (.c (.p (.int .u32) ret49v))), (1, [], .v (.c (.ptr 5 0))), (26, [], .v (.c (.ptr 1 0))), (27, [], .v (.c (.ptr 2 0))), (30, [], .v (.c (.ptr 5 0))), (31, [], .v (.c (.cl 47 [.pt 5 0]))), (32, [], .v (.c (.ptr 7 0))), (33, [], .v (.c (.p (.int .i64) i))), (34, [], .v (.c (.own 34))), (61, [], .v (.c (.p (.int .i64) ((List.replicate (n.2.1).toNat (0 : Int)).length : Int)))), (62, [], .v (.c (.p (.int .i64) v37))), (65, [], .v (.c (.own 34))), (66, [], .v (.c (.p (.int .i64) v37)))], [(1, [], .box [.p (.int .i64) n.1, .p (.int .i64) n.2.1, .p (.sl (.pr (.int .i64) (.pr (.int .i64) (.int .i64)))) n.2.2.1, .p (.int .u32) n.2.2.2.1, .p (.int .u32) n.2.2.2.2]), (2, [], .box [.p (.int .i64) (0 : Int), .p (.int .i64) (0 : Int), .nils, .p (.int .i64) (0 : Int), .p (.int .u32) (0 : Int)]), (5, [], .box [.own 21]), (7, [], .box [.p (.int .i64) (0 : Int), .p (.int .i64) n.2.1, .own 6142, .p (.int .i64) (0 : Int), .p (.int .u32) out]), (21, [], .arr 23 (.int .u32) l212), (34, [], .arr 3 (.int .i64) row), (6142, [], .arr 26 (.sl (.int .i64)) l6142)]⟩ : St)) (by kernel_rfl) ⟨trivial, trivial⟩ ?_
                    refine awl_nil ?_
                    refine thenQ_n ?_
                    refine aw_seq ?_
                    refine aw_seq ?_
                    refine aw_region ?_
                    refine awl_runp 3 [0, 1, 6, 7, 8, 26, 27, 30, 31, 32, 33, 34, 61, 62, 65, 66] [1, 2, 5, 7, 21, 34, 6142] (ob := (True ∧ True ∧ True ∧ True)) (st' := (⟨25, [(0, [], .v (.c (.p (.int .u32) ret49v))), (1, [], .v (.c (.ptr 5 0))), (6, [], .v (.c (.own 21))), (7, [], .v (.c (.p (.int .i64) (l212.length : Int)))), (8, [], .v (.c (.p (.int .i64) (0 : Int)))), (26, [], .v (.c (.ptr 1 0))), (27, [], .v (.c (.ptr 2 0))), (30, [], .v (.c (.ptr 5 0))), (31, [], .v (.c (.cl 47 [.pt 5 0]))), (32, [], .v (.c (.ptr 7 0))), (33, [], .v (.c (.p (.int .i64) i))), (34, [], .v (.c (.own 34))), (61, [], .v (.c (.p (.int .i64) ((List.replicate (n.2.1).toNat (0 : Int)).length : Int)))), (62, [], .v (.c (.p (.int .i64) v37))), (65, [], .v (.c (.own 34))), (66, [], .v (.c (.p (.int .i64) v37)))], [(1, [], .box [.p (.int .i64) n.1, .p (.int .i64) n.2.1, .p (.sl (.pr (.int .i64) (.pr (.int .i64) (.int .i64)))) n.2.2.1, .p (.int .u32) n.2.2.2.1, .p (.int .u32) n.2.2.2.2]), (2, [], .box [.p (.int .i64) (0 : Int), .p (.int .i64) (0 : Int), .nils, .p (.int .i64) (0 : Int), .p (.int .u32) (0 : Int)]), (5, [], .box [.own 21]), (7, [], .box [.p (.int .i64) (0 : Int), .p (.int .i64) n.2.1, .own 6142, .p (.int .i64) (0 : Int), .p (.int .u32) out]), (21, [], .arr 23 (.int .u32) l212), (34, [], .arr 3 (.int .i64) row), (6142, [], .arr 26 (.sl (.int .i64)) l6142)]⟩ : St)) (by kernel_rfl) ⟨trivial, trivial, trivial, trivial⟩ ?_
                    refine awl_nil ?_
                    refine thenQ_n ?_
                    refine withJoin (σ := Unit) (fun s => (⟨25, [(0, [], .v (.c (.p (.int .u32) ret49v))), (1, [], .v (.c (.ptr 5 0))), (26, [], .v (.c (.ptr 1 0))), (27, [], .v (.c (.ptr 2 0))), (30, [], .v (.c (.ptr 5 0))), (31, [], .v (.c (.cl 47 [.pt 5 0]))), (32, [], .v (.c (.ptr 7 0))), (33, [], .v (.c (.p (.int .i64) i))), (34, [], .v (.c (.own 34))), (61, [], .v (.c (.p (.int .i64) ((List.replicate (n.2.1).toNat (0 : Int)).length : Int)))), (62, [], .v (.c (.p (.int .i64) v37))), (65, [], .v (.c (.own 34))), (66, [], .v (.c (.p (.int .i64) v37)))], [(1, [], .box [.p (.int .i64) n.1, .p (.int .i64) n.2.1, .p (.sl (.pr (.int .i64) (.pr (.int .i64) (.int .i64)))) n.2.2.1, .p (.int .u32) n.2.2.2.1, .p (.int .u32) n.2.2.2.2]), (2, [], .box [.p (.int .i64) (0 : Int), .p (.int .i64) (0 : Int), .nils, .p (.int .i64) (0 : Int), .p (.int .u32) (0 : Int)]), (5, [], .box [.own 21]), (7, [], .box [.p (.int .i64) (0 : Int), .p (.int .i64) n.2.1, .own 6142, .p (.int .i64) (0 : Int), .p (.int .u32) out]), (21, [], .arr 23 (.int .u32) l212), (34, [], .arr 3 (.int .i64) row), (6142, [], .arr 26 (.sl (.int .i64)) l6142)]⟩ : St)) (fun s => VC24_k8 v37 l212 row X2 ret49v) (fun s h => ?_) (fun rest8 => ?_)
                    · have h : VC24_k8 v37 l212 row X2 ret49v := h
                      unfold VC24_k8 at h
                      refine thenQ_n ?_
                      refine aw_seq ?_
                      refine aw_region ?_
                      obtain ⟨o1, h⟩ := h
                      refine awl_runp 5 [1, 26, 27, 30, 31, 32, 33, 34, 61, 62, 65, 66] [1, 2, 5, 7, 21, 34, 6142] (ob := (True ∧ True ∧ True ∧ roomN (l212.length + [ret49v].length) ∧ True ∧ True)) (st' := (⟨25, [(1, [], .v (.c (.ptr 5 0))), (26, [], .v (.c (.ptr 1 0))), (27, [], .v (.c (.ptr 2 0))), (30, [], .v (.c (.ptr 5 0))), (31, [], .v (.c (.cl 47 [.pt 5 0]))), (32, [], .v (.c (.ptr 7 0))), (33, [], .v (.c (.p (.int .i64) i))), (34, [], .v (.c (.own 34))), (61, [], .v (.c (.p (.int .i64) ((List.replicate (n.2.1).toNat (0 : Int)).length : Int)))), (62, [], .v (.c (.p (.int .i64) v37))), (65, [], .v (.c (.own 34))), (66, [], .v (.c (.p (.int .i64) v37)))], [(1, [], .box [.p (.int .i64) n.1, .p (.int .i64) n.2.1, .p (.sl (.pr (.int .i64) (.pr (.int .i64) (.int .i64)))) n.2.2.1, .p (.int .u32) n.2.2.2.1, .p (.int .u32) n.2.2.2.2]), (2, [], .box [.p (.int .i64) (0 : Int), .p (.int .i64) (0 : Int), .nils, .p (.int .i64) (0 : Int), .p (.int .u32) (0 : Int)]), (5, [], .box [.own 21]), (7, [], .box [.p (.int .i64) (0 : Int), .p (.int .i64) n.2.1, .own 6142, .p (.int .i64) (0 : Int), .p (.int .u32) out]), (21, [], .arr 23 (.int .u32) (l212 ++ [ret49v])), (34, [], .arr 3 (.int .i64) row), (6142, [], .arr 26 (.sl (.int .i64)) l6142)]⟩ : St)) (by kernel_rfl) ⟨trivial, trivial, trivial, o1, trivial, trivial⟩ ?_
                      refine awl_nil ?_
                      refine thenQ_n ?_
                      refine aw_seq ?_
                      refine aw_region ?_
                      obtain ⟨o1, h⟩ := h
                      refine awl_runp 4 [3, 26, 27, 30, 31, 32, 33, 34, 61, 62, 65, 66] [1, 2, 5, 7, 21, 34, 6142] (ob := (True ∧ True ∧ InR (((l212 ++ [ret49v]).length : Int) - (1 : Int)) ∧ True ∧ True)) (st' := (⟨25, [(3, [], .v (.c (.p (.int .i64) (((l212 ++ [ret49v]).length : Int) - (1 : Int))))), (26, [], .v (.c (.ptr 1 0))), (27, [], .v (.c (.ptr 2 0))), (30, [], .v (.c (.ptr 5 0))), (31, [], .v (.c (.cl 47 [.pt 5 0]))), (32, [], .v (.c (.ptr 7 0))), (33, [], .v (.c (.p (.int .i64) i))), (34, [], .v (.c (.own 34))), (61, [], .v (.c (.p (.int .i64) ((List.replicate (n.2.1).toNat (0 : Int)).length : Int)))), (62, [], .v (.c (.p (.int .i64) v37))), (65, [], .v (.c (.own 34))), (66, [], .v (.c (.p (.int .i64) v37)))], [(1, [], .box [.p (.int .i64) n.1, .p (.int .i64) n.2.1, .p (.sl (.pr (.int .i64) (.pr (.int .i64) (.int .i64)))) n.2.2.1, .p (.int .u32) n.2.2.2.1, .p (.int .u32) n.2.2.2.2]), (2, [], .box [.p (.int .i64) (0 : Int), .p (.int .i64) (0 : Int), .nils, .p (.int .i64) (0 : Int), .p (.int .u32) (0 : Int)]), (5, [], .box [.own 21]), (7, [], .box [.p (.int .i64) (0 : Int), .p (.int .i64) n.2.1, .own 6142, .p (.int .i64) (0 : Int), .p (.int .u32) out]), (21, [], .arr 23 (.int .u32) (l212 ++ [ret49v])), (34, [], .arr 3 (.int .i64) row), (6142, [], .arr 26 (.sl (.int .i64)) l6142)]⟩ : St)) (by kernel_rfl) ⟨trivial, trivial, o1, trivial, trivial⟩ ?_
                      refine awl_nil ?_
                      refine thenQ_n ?_
                      refine aw_ret ?_
                      exact rest7 ((((l212 ++ [ret49v]).length : Int) - (1 : Int)), (l212 ++ [ret49v])) h
                    · refine aw_block ?_
                      refine aw_loop (σ := Int) (fun s => (⟨25, [(0, [], .v (.c (.p (.int .u32) ret49v))), (1, [], .v (.c (.ptr 5 0))), (6, [], .v (.c (.own 21))), (7, [], .v (.c (.p (.int .i64) (l212.length : Int)))), (8, [], .v (.c (.p (.int .i64) s))), (26, [], .v (.c (.ptr 1 0))), (27, [], .v (.c (.ptr 2 0))), (30, [], .v (.c (.ptr 5 0))), (31, [], .v (.c (.cl 47 [.pt 5 0]))), (32, [], .v (.c (.ptr 7 0))), (33, [], .v (.c (.p (.int .i64) i))), (34, [], .v (.c (.own 34))), (61, [], .v (.c (.p (.int .i64) ((List.replicate (n.2.1).toNat (0 : Int)).length : Int)))), (62, [], .v (.c (.p (.int .i64) v37))), (65, [], .v (.c (.own 34))), (66, [], .v (.c (.p (.int .i64) v37)))], [(1, [], .box [.p (.int .i64) n.1, .p (.int .i64) n.2.1, .p (.sl (.pr (.int .i64) (.pr (.int .i64) (.int .i64)))) n.2.2.1, .p (.int .u32) n.2.2.2.1, .p (.int .u32) n.2.2.2.2]), (2, [], .box [.p (.int .i64) (0 : Int), .p (.int .i64) (0 : Int), .nils, .p (.int .i64) (0 : Int), .p (.int .u32) (0 : Int)]), (5, [], .box [.own 21]), (7, [], .box [.p (.int .i64) (0 : Int), .p (.int .i64) n.2.1, .own 6142, .p (.int .i64) (0 : Int), .p (.int .u32) out]), (21, [], .arr 23 (.int .u32) l212), (34, [], .arr 3 (.int .i64) row), (6142, [], .arr 26 (.sl (.int .i64)) l6142)]⟩ : St)) (fun s X => VC24_l4 v37 l212 row X2 ret49v s X) (s0 := (0 : Int)) (fun v8 X4 h => ?_) h
                      have h : VC24_l4 v37 l212 row X2 ret49v v8 X4 := h
                      unfold VC24_l4 at h
                      refine aw_seq ?_
                      refine aw_region ?_
                      refine awl_runp 1 [0, 1, 6, 7, 8, 9, 26, 27, 30, 31, 32, 33, 34, 61, 62, 65, 66] [1, 2, 5, 7, 21, 34, 6142] (ob := (True ∧ True)) (st' := (⟨25, [(0, [], .v (.c (.p (.int .u32) ret49v))), (1, [], .v (.c (.ptr 5 0))), (6, [], .v (.c (.own 21))), (7, [], .v (.c (.p (.int .i64) (l212.length : Int)))), (8, [], .v (.c (.p (.int .i64) v8))), (9, [], .v (.c (.p .bool (decide (v8 < (l212.length : Int)))))), (26, [], .v (.c (.ptr 1 0))), (27, [], .v (.c (.ptr 2 0))), (30, [], .v (.c (.ptr 5 0))), (31, [], .v (.c (.cl 47 [.pt 5 0]))), (32, [], .v (.c (.ptr 7 0))), (33, [], .v (.c (.p (.int .i64) i))), (34, [], .v (.c (.own 34))), (61, [], .v (.c (.p (.int .i64) ((List.replicate (n.2.1).toNat (0 : Int)).length : Int)))), (62, [], .v (.c (.p (.int .i64) v37))), (65, [], .v (.c (.own 34))), (66, [], .v (.c (.p (.int .i64) v37)))], [(1, [], .box [.p (.int .i64) n.1, .p (.int .i64) n.2.1, .p (.sl (.pr (.int .i64) (.pr (.int .i64) (.int .i64)))) n.2.2.1, .p (.int .u32) n.2.2.2.1, .p (.int .u32) n.2.2.2.2]), (2, [], .box [.p (.int .i64) (0 : Int), .p (.int .i64) (0 : Int), .nils, .p (.int .i64) (0 : Int), .p (.int .u32) (0 : Int)]), (5, [], .box [.own 21]), (7, [], .box [.p (.int .i64) (0 : Int), .p (.int .i64) n.2.1, .own 6142, .p (.int .i64) (0 : Int), .p (.int .u32) out]), (21, [], .arr 23 (.int .u32) l212), (34, [], .arr 3 (.int .i64) row), (6142, [], .arr 26 (.sl (.int .i64)) l6142)]⟩ : St)) (by kernel_rfl) ⟨trivial, trivial⟩ ?_
                      refine awl_nil ?_
                      refine thenQ_n ?_
                      refine aw_seq ?_
                      refine aw_cond (b := (decide (v8 < (l212.length : Int)))) (by kernel_rfl) (fun hb => ?_) (fun hb => ?_)
                      · have h := h.1 hb
                        refine aw_skip ?_
                        refine thenQ_n ?_
                        refine aw_seq ?_
                        refine aw_block ?_
                        refine aw_seq ?_
                        refine aw_region ?_
                        obtain ⟨o1, h⟩ := h
                        refine awl_runp 5 [0, 1, 4, 5, 6, 7, 8, 26, 27, 30, 31, 32, 33, 34, 61, 62, 65, 66] [1, 2, 5, 7, 21, 34, 6142] (ob := (True ∧ inIdx v8 l212.length ∧ True ∧ True ∧ True ∧ True)) (st' := (⟨25, [(0, [], .v (.c (.p (.int .u32) ret49v))), (1, [], .v (.c (.ptr 5 0))), (4, [], .v (.c (.p (.int .i64) v8))), (5, [], .v (.c (.p (.int .u32) (l212.getD ((v8).toNat) (0 : Int))))), (6, [], .v (.c (.own 21))), (7, [], .v (.c (.p (.int .i64) (l212.length : Int)))), (8, [], .v (.c (.p (.int .i64) v8))), (26, [], .v (.c (.ptr 1 0))), (27, [], .v (.c (.ptr 2 0))), (30, [], .v (.c (.ptr 5 0))), (31, [], .v (.c (.cl 47 [.pt 5 0]))), (32, [], .v (.c (.ptr 7 0))), (33, [], .v (.c (.p (.int .i64) i))), (34, [], .v (.c (.own 34))), (61, [], .v (.c (.p (.int .i64) ((List.replicate (n.2.1).toNat (0 : Int)).length : Int)))), (62, [], .v (.c (.p (.int .i64) v37))), (65, [], .v (.c (.own 34))), (66, [], .v (.c (.p (.int .i64) v37)))], [(1, [], .box [.p (.int .i64) n.1, .p (.int .i64) n.2.1, .p (.sl (.pr (.int .i64) (.pr (.int .i64) (.int .i64)))) n.2.2.1, .p (.int .u32) n.2.2.2.1, .p (.int .u32) n.2.2.2.2]), (2, [], .box [.p (.int .i64) (0 : Int), .p (.int .i64) (0 : Int), .nils, .p (.int .i64) (0 : Int), .p (.int .u32) (0 : Int)]), (5, [], .box [.own 21]), (7, [], .box [.p (.int .i64) (0 : Int), .p (.int .i64) n.2.1, .own 6142, .p (.int .i64) (0 : Int), .p (.int .u32) out]), (21, [], .arr 23 (.int .u32) l212), (34, [], .arr 3 (.int .i64) row), (6142, [], .arr 26 (.sl (.int .i64)) l6142)]⟩ : St)) (by kernel_rfl) ⟨trivial, o1, trivial, trivial, trivial, trivial⟩ ?_
                        refine awl_nil ?_
                        refine thenQ_n ?_
                        refine aw_seq ?_
                        refine aw_region ?_
                        refine awl_runp 3 [0, 1, 4, 6, 7, 8, 15, 26, 27, 30, 31, 32, 33, 34, 61, 62, 65, 66] [1, 2, 5, 7, 21, 34, 6142] (ob := (True ∧ True ∧ True ∧ True)) (st' := (⟨25, [(0, [], .v (.c (.p (.int .u32) ret49v))), (1, [], .v (.c (.ptr 5 0))), (4, [], .v (.c (.p (.int .i64) v8))), (6, [], .v (.c (.own 21))), (7, [], .v (.c (.p (.int .i64) (l212.length : Int)))), (8, [], .v (.c (.p (.int .i64) v8))), (15, [], .v (.c (.p .bool (decide ((l212.getD ((v8).toNat) (0 : Int)) = ret49v))))), (26, [], .v (.c (.ptr 1 0))), (27, [], .v (.c (.ptr 2 0))), (30, [], .v (.c (.ptr 5 0))), (31, [], .v (.c (.cl 47 [.pt 5 0]))), (32, [], .v (.c (.ptr 7 0))), (33, [], .v (.c (.p (.int .i64) i))), (34, [], .v (.c (.own 34))), (61, [], .v (.c (.p (.int .i64) ((List.replicate (n.2.1).toNat (0 : Int)).length : Int)))), (62, [], .v (.c (.p (.int .i64) v37))), (65, [], .v (.c (.own 34))), (66, [], .v (.c (.p (.int .i64) v37)))], [(1, [], .box [.p (.int .i64) n.1, .p (.int .i64) n.2.1, .p (.sl (.pr (.int .i64) (.pr (.int .i64) (.int .i64)))) n.2.2.1, .p (.int .u32) n.2.2.2.1, .p (.int .u32) n.2.2.2.2]), (2, [], .box [.p (.int .i64) (0 : Int), .p (.int .i64) (0 : Int), .nils, .p (.int .i64) (0 : Int), .p (.int .u32) (0 : Int)]), (5, [], .box [.own 21]), (7, [], .box [.p (.int .i64) (0 : Int), .p (.int .i64) n.2.1, .own 6142, .p (.int .i64) (0 : Int), .p (.int .u32) out]), (21, [], .arr 23 (.int .u32) l212), (34, [], .arr 3 (.int .i64) row), (6142, [], .arr 26 (.sl (.int .i64)) l6142)]⟩ : St)) (by kernel_rfl) ⟨trivial, trivial, trivial, trivial⟩ ?_
                        refine awl_nil ?_
                        refine thenQ_n ?_
                        refine aw_cond (b := (decide ((l212.getD ((v8).toNat) (0 : Int)) = ret49v))) (by kernel_rfl) (fun hb => ?_) (fun hb => ?_)
                        · have h := h.1 hb
                          refine aw_seq ?_
                          refine aw_region ?_
                          refine awl_runp 2 [3, 26, 27, 30, 31, 32, 33, 34, 61, 62, 65, 66] [1, 2, 5, 7, 21, 34, 6142] (ob := (True ∧ True ∧ True)) (st' := (⟨25, [(3, [], .v (.c (.p (.int .i64) v8))), (26, [], .v (.c (.ptr 1 0))), (27, [], .v (.c (.ptr 2 0))), (30, [], .v (.c (.ptr 5 0))), (31, [], .v (.c (.cl 47 [.pt 5 0]))), (32, [], .v (.c (.ptr 7 0))), (33, [], .v (.c (.p (.int .i64) i))), (34, [], .v (.c (.own 34))), (61, [], .v (.c (.p (.int .i64) ((List.replicate (n.2.1).toNat (0 : Int)).length : Int)))), (62, [], .v (.c (.p (.int .i64) v37))), (65, [], .v (.c (.own 34))), (66, [], .v (.c (.p (.int .i64) v37)))], [(1, [], .box [.p (.int .i64) n.1, .p (.int .i64) n.2.1, .p (.sl (.pr (.int .i64) (.pr (.int .i64) (.int .i64)))) n.2.2.1, .p (.int .u32) n.2.2.2.1, .p (.int .u32) n.2.2.2.2]), (2, [], .box [.p (.int .i64) (0 : Int), .p (.int .i64) (0 : Int), .nils, .p (.int .i64) (0 : Int), .p (.int .u32) (0 : Int)]), (5, [], .box [.own 21]), (7, [], .box [.p (.int .i64) (0 : Int), .p (.int .i64) n.2.1, .own 6142, .p (.int .i64) (0 : Int), .p (.int .u32) out]), (21, [], .arr 23 (.int .u32) l212), (34, [], .arr 3 (.int .i64) row), (6142, [], .arr 26 (.sl (.int .i64)) l6142)]⟩ : St)) (by kernel_rfl) ⟨trivial, trivial, trivial⟩ ?_
                          refine awl_nil ?_
                          refine thenQ_n ?_
                          refine aw_ret ?_
                          refine blockQ_r ?_
                          refine thenQ_r ?_
                          refine thenQ_r ?_
                          refine blockQ_r ?_
                          refine thenQ_r ?_
                          exact rest7 (v8, l212) h
                        · have h := h.2 hb
                          refine aw_skip ?_
                          refine blockQ_n ?_
                          refine thenQ_n ?_
                          refine aw_region ?_
                          obtain ⟨o1, h⟩ := h
                          refine awl_runp 2 [0, 1, 6, 7, 8, 26, 27, 30, 31, 32, 33, 34, 61, 62, 65, 66] [1, 2, 5, 7, 21, 34, 6142] (ob := (InR (v8 + (1 : Int)) ∧ True ∧ True)) (st' := (⟨25, [(0, [], .v (.c (.p (.int .u32) ret49v))), (1, [], .v (.c (.ptr 5 0))), (6, [], .v (.c (.own 21))), (7, [], .v (.c (.p (.int .i64) (l212.length : Int)))), (8, [], .v (.c (.p (.int .i64) (v8 + (1 : Int))))), (26, [], .v (.c (.ptr 1 0))), (27, [], .v (.c (.ptr 2 0))), (30, [], .v (.c (.ptr 5 0))), (31, [], .v (.c (.cl 47 [.pt 5 0]))), (32, [], .v (.c (.ptr 7 0))), (33, [], .v (.c (.p (.int .i64) i))), (34, [], .v (.c (.own 34))), (61, [], .v (.c (.p (.int .i64) ((List.replicate (n.2.1).toNat (0 : Int)).length : Int)))), (62, [], .v (.c (.p (.int .i64) v37))), (65, [], .v (.c (.own 34))), (66, [], .v (.c (.p (.int .i64) v37)))], [(1, [], .box [.p (.int .i64) n.1, .p (.int .i64) n.2.1, .p (.sl (.pr (.int .i64) (.pr (.int .i64) (.int .i64)))) n.2.2.1, .p (.int .u32) n.2.2.2.1, .p (.int .u32) n.2.2.2.2]), (2, [], .box [.p (.int .i64) (0 : Int), .p (.int .i64) (0 : Int), .nils, .p (.int .i64) (0 : Int), .p (.int .u32) (0 : Int)]), (5, [], .box [.own 21]), (7, [], .box [.p (.int .i64) (0 : Int), .p (.int .i64) n.2.1, .own 6142, .p (.int .i64) (0 : Int), .p (.int .u32) out]), (21, [], .arr 23 (.int .u32) l212), (34, [], .arr 3 (.int .i64) row), (6142, [], .arr 26 (.sl (.int .i64)) l6142)]⟩ : St)) (by kernel_rfl) ⟨o1, trivial, trivial⟩ ?_
                          refine awl_nil ?_
                          exact thenQ_n ⟨(v8 + (1 : Int)), rfl, h⟩
                      · have h := h.2 hb
                        refine aw_conv [.prune [0, 1, 26, 27, 30, 31, 32, 33, 34, 61, 62, 65, 66] [1, 2, 5, 7, 21, 34, 6142]] (st' := (⟨25, [(0, [], .v (.c (.p (.int .u32) ret49v))), (1, [], .v (.c (.ptr 5 0))), (26, [], .v (.c (.ptr 1 0))), (27, [], .v (.c (.ptr 2 0))), (30, [], .v (.c (.ptr 5 0))), (31, [], .v (.c (.cl 47 [.pt 5 0]))), (32, [], .v (.c (.ptr 7 0))), (33, [], .v (.c (.p (.int .i64) i))), (34, [], .v (.c (.own 34))), (61, [], .v (.c (.p (.int .i64) ((List.replicate (n.2.1).toNat (0 : Int)).length : Int)))), (62, [], .v (.c (.p (.int .i64) v37))), (65, [], .v (.c (.own 34))), (66, [], .v (.c (.p (.int .i64) v37)))], [(1, [], .box [.p (.int .i64) n.1, .p (.int .i64) n.2.1, .p (.sl (.pr (.int .i64) (.pr (.int .i64) (.int .i64)))) n.2.2.1, .p (.int .u32) n.2.2.2.1, .p (.int .u32) n.2.2.2.2]), (2, [], .box [.p (.int .i64) (0 : Int), .p (.int .i64) (0 : Int), .nils, .p (.int .i64) (0 : Int), .p (.int .u32) (0 : Int)]), (5, [], .box [.own 21]), (7, [], .box [.p (.int .i64) (0 : Int), .p (.int .i64) n.2.1, .own 6142, .p (.int .i64) (0 : Int), .p (.int .u32) out]), (21, [], .arr 23 (.int .u32) l212), (34, [], .arr 3 (.int .i64) row), (6142, [], .arr 26 (.sl (.int .i64)) l6142)]⟩ : St)) (by kernel_rfl) ?_
                        refine aw_exit ?_
                        refine thenQ_x ?_
                        refine thenQ_x ?_
                        refine blockQ_hit ?_
                        exact rest8 () h
                · have h := h.2
                  refine adop_stepp [1, 2, 5, 6, 7, 8, 9, 36, 37, 40, 41, 42, 47, 48] [1, 2, 5, 7, 21, 34, 6142] (ob := True) (st' := (⟨81, [(1, [], .v (.c (.ptr 1 0))), (2, [], .v (.c (.ptr 2 0))), (5, [], .v (.c (.ptr 5 0))), (6, [], .v (.c (.cl 47 [.pt 5 0]))), (7, [], .v (.c (.ptr 7 0))), (8, [], .v (.c (.p (.int .i64) i))), (9, [], .v (.c (.own 34))), (36, [], .v (.c (.p (.int .i64) ((List.replicate (n.2.1).toNat (0 : Int)).length : Int)))), (37, [], .v (.c (.p (.int .i64) v37))), (40, [], .v (.c (.own 34))), (41, [], .v (.c (.p (.int .i64) v37))), (42, [], .v (.c (.cl 47 [.pt 5 0]))), (47, [], .v (.c (.p (.int .u32) (l212.getD ((i).toNat) (0 : Int))))), (48, [], .v (.c (.p (.int .i64) v37)))], [(1, [], .box [.p (.int .i64) n.1, .p (.int .i64) n.2.1, .p (.sl (.pr (.int .i64) (.pr (.int .i64) (.int .i64)))) n.2.2.1, .p (.int .u32) n.2.2.2.1, .p (.int .u32) n.2.2.2.2]), (2, [], .box [.p (.int .i64) (0 : Int), .p (.int .i64) (0 : Int), .nils, .p (.int .i64) (0 : Int), .p (.int .u32) (0 : Int)]), (5, [], .box [.own 21]), (7, [], .box [.p (.int .i64) (0 : Int), .p (.int .i64) n.2.1, .own 6142, .p (.int .i64) (0 : Int), .p (.int .u32) out]), (21, [], .arr 23 (.int .u32) l212), (34, [], .arr 3 (.int .i64) row), (6142, [], .arr 26 (.sl (.int .i64)) l6142)]⟩ : St)) rfl (by kernel_rfl) trivial ?_
                  refine awd_one (i := 3) (by kernel_rfl) ?_
                  refine adop_stepp [1, 2, 5, 6, 7, 8, 9, 36, 37, 40, 41, 42, 43, 47, 48] [1, 2, 5, 7, 21, 34, 6142] (ob := True) (st' := (⟨81, [(1, [], .v (.c (.ptr 1 0))), (2, [], .v (.c (.ptr 2 0))), (5, [], .v (.c (.ptr 5 0))), (6, [], .v (.c (.cl 47 [.pt 5 0]))), (7, [], .v (.c (.ptr 7 0))), (8, [], .v (.c (.p (.int .i64) i))), (9, [], .v (.c (.own 34))), (36, [], .v (.c (.p (.int .i64) ((List.replicate (n.2.1).toNat (0 : Int)).length : Int)))), (37, [], .v (.c (.p (.int .i64) v37))), (40, [], .v (.c (.own 34))), (41, [], .v (.c (.p (.int .i64) v37))), (42, [], .v (.c (.cl 47 [.pt 5 0]))), (43, [], .v (.agg [.p (.int .i64) n.1, .p (.int .i64) n.2.1, .p (.sl (.pr (.int .i64) (.pr (.int .i64) (.int .i64)))) n.2.2.1, .p (.int .u32) n.2.2.2.1, .p (.int .u32) n.2.2.2.2])), (47, [], .v (.c (.p (.int .u32) (l212.getD ((i).toNat) (0 : Int))))), (48, [], .v (.c (.p (.int .i64) v37)))], [(1, [], .box [.p (.int .i64) n.1, .p (.int .i64) n.2.1, .p (.sl (.pr (.int .i64) (.pr (.int .i64) (.int .i64)))) n.2.2.1, .p (.int .u32) n.2.2.2.1, .p (.int .u32) n.2.2.2.2]), (2, [], .box [.p (.int .i64) (0 : Int), .p (.int .i64) (0 : Int), .nils, .p (.int .i64) (0 : Int), .p (.int .u32) (0 : Int)]), (5, [], .box [.own 21]), (7, [], .box [.p (.int .i64) (0 : Int), .p (.int .i64) n.2.1, .own 6142, .p (.int .i64) (0 : Int), .p (.int .u32) out]), (21, [], .arr 23 (.int .u32) l212), (34, [], .arr 3 (.int .i64) row), (6142, [], .arr 26 (.sl (.int .i64)) l6142)]⟩ : St)) rfl (by kernel_rfl) trivial ?_
                  refine awd_one (i := 9) (by kernel_rfl) ?_
                  refine adop_callk (p := []) (l := [toV1 (.pr (.int .i64) (.pr (.int .i64) (.pr (.sl (.pr (.int .i64) (.pr (.int .i64) (.int .i64)))) (.pr (.int .u32) (.int .u32))))) n, toV1 (.int .u32) (l212.getD ((i).toNat) (0 : Int)), toV1 (.int .i64) v37]) (cl := []) false [.d (.pr (.int .i64) (.pr (.int .i64) (.pr (.sl (.pr (.int .i64) (.pr (.int .i64) (.int .i64)))) (.pr (.int .u32) (.int .u32))))), .d (.int .u32), .d (.int .i64)] [1, 2, 5, 6, 7, 8, 9, 36, 37, 40, 41, 42, 49] [1, 2, 5, 7, 21, 34, 6142] (fun (ret49v : Int) => Loop (σ := Int) (fun s X => VC24_l5 v37 l212 row X2 ret49v s X) (0 : Int)) (fun ret49v => [toV1 (.int .u32) ret49v]) (fun ret49v => (⟨81, [(1, [], .v (.c (.ptr 1 0))), (2, [], .v (.c (.ptr 2 0))), (5, [], .v (.c (.ptr 5 0))), (6, [], .v (.c (.cl 47 [.pt 5 0]))), (7, [], .v (.c (.ptr 7 0))), (8, [], .v (.c (.p (.int .i64) i))), (9, [], .v (.c (.own 34))), (36, [], .v (.c (.p (.int .i64) ((List.replicate (n.2.1).toNat (0 : Int)).length : Int)))), (37, [], .v (.c (.p (.int .i64) v37))), (40, [], .v (.c (.own 34))), (41, [], .v (.c (.p (.int .i64) v37))), (42, [], .v (.c (.cl 47 [.pt 5 0]))), (49, [], .v (.c (.p (.int .u32) ret49v)))], [(1, [], .box [.p (.int .i64) n.1, .p (.int .i64) n.2.1, .p (.sl (.pr (.int .i64) (.pr (.int .i64) (.int .i64)))) n.2.2.1, .p (.int .u32) n.2.2.2.1, .p (.int .u32) n.2.2.2.2]), (2, [], .box [.p (.int .i64) (0 : Int), .p (.int .i64) (0 : Int), .nils, .p (.int .i64) (0 : Int), .p (.int .u32) (0 : Int)]), (5, [], .box [.own 21]), (7, [], .box [.p (.int .i64) (0 : Int), .p (.int .i64) n.2.1, .own 6142, .p (.int .i64) (0 : Int), .p (.int .u32) out]), (21, [], .arr 23 (.int .u32) l212), (34, [], .arr 3 (.int .i64) row), (6142, [], .arr 26 (.sl (.int .i64)) l6142)]⟩ : St)) rfl (by kernel_rfl) rfl (by kernel_rfl) rfl (by kernel_rfl) Try.call46 (by kernel_rfl) (fun ret49v => by kernel_rfl) (fun e => by cases e) (fun hg => link46 n (l212.getD ((i).toNat) (0 : Int)) v37 _ h) (fun hg => noF hg) (fun ret49v h => ?_)
                  have h : Loop (σ := Int) (fun s X => VC24_l5 v37 l212 row X2 ret49v s X) (0 : Int) := h
                  refine awd_one (i := 10) (by kernel_rfl) ?_
                  refine adop_inline [.c (.p (.int .u32) ret49v)] [.c (.ptr 5 0)] (r := 3) rfl rfl rfl (by kernel_rfl) rfl (by kernel_rfl) Try.call47 (by kernel_rfl) (by kernel_rfl) Try.func47 rfl rfl (by kernel_rfl) ?_
                  refine aw_conv [] (st' := (⟨25, [(0, [], .v (.c (.p (.int .u32) ret49v))), (1, [], .v (.c (.ptr 5 0))), (26, [], .v (.c (.ptr 1 0))), (27, [], .v (.c (.ptr 2 0))), (30, [], .v (.c (.ptr 5 0))), (31, [], .v (.c (.cl 47 [.pt 5 0]))), (32, [], .v (.c (.ptr 7 0))), (33, [], .v (.c (.p (.int .i64) i))), (34, [], .v (.c (.own 34))), (61, [], .v (.c (.p (.int .i64) ((List.replicate (n.2.1).toNat (0 : Int)).length : Int)))), (62, [], .v (.c (.p (.int .i64) v37))), (65, [], .v (.c (.own 34))), (66, [], .v (.c (.p (.int .i64) v37))), (67, [], .v (.c (.cl 47 [.pt 5 0]))), (74, [], .v (.c (.p (.int .u32) ret49v)))], [(1, [], .box [.p (.int .i64) n.1, .p (.int .i64) n.2.1, .p (.sl (.pr (.int .i64) (.pr (.int .i64) (.int .i64)))) n.2.2.1, .p (.int .u32) n.2.2.2.1, .p (.int .u32) n.2.2.2.2]), (2, [], .box [.p (.int .i64) (0 : Int), .p (.int .i64) (0 : Int), .nils, .p (.int .i64) (0 : Int), .p (.int .u32) (0 : Int)]), (5, [], .box [.own 21]), (7, [], .box [.p (.int .i64) (0 : Int), .p (.int .i64) n.2.1, .own 6142, .p (.int .i64) (0 : Int), .p (.int .u32) out]), (21, [], .arr 23 (.int .u32) l212), (34, [], .arr 3 (.int .i64) row), (6142, [], .arr 26 (.sl (.int .i64)) l6142)]⟩ : St)) (by kernel_rfl) ?_
                  refine withJoinI (σ := Int × (List Int)) (fun s => (⟨25, [(3, [], .v (.c (.p (.int .i64) s.1))), (26, [], .v (.c (.ptr 1 0))), (27, [], .v (.c (.ptr 2 0))), (30, [], .v (.c (.ptr 5 0))), (31, [], .v (.c (.cl 47 [.pt 5 0]))), (32, [], .v (.c (.ptr 7 0))), (33, [], .v (.c (.p (.int .i64) i))), (34, [], .v (.c (.own 34))), (61, [], .v (.c (.p (.int .i64) ((List.replicate (n.2.1).toNat (0 : Int)).length : Int)))), (62, [], .v (.c (.p (.int .i64) v37))), (65, [], .v (.c (.own 34))), (66, [], .v (.c (.p (.int .i64) v37)))], [(1, [], .box [.p (.int .i64) n.1, .p (.int .i64) n.2.1, .p (.sl (.pr (.int .i64) (.pr (.int .i64) (.int .i64)))) n.2.2.1, .p (.int .u32) n.2.2.2.1, .p (.int .u32) n.2.2.2.2]), (2, [], .box [.p (.int .i64) (0 : Int), .p (.int .i64) (0 : Int), .nils, .p (.int .i64) (0 : Int), .p (.int .u32) (0 : Int)]), (5, [], .box [.own 21]), (7, [], .box [.p (.int .i64) (0 : Int), .p (.int .i64) n.2.1, .own 6142, .p (.int .i64) (0 : Int), .p (.int .u32) out]), (21, [], .arr 23 (.int .u32) s.2), (34, [], .arr 3 (.int .i64) row), (6142, [], .arr 26 (.sl (.int .i64)) l6142)]⟩ : St)) (fun s => VC24_k9 v37 row X2 s.1 s.2) (fun s h => ?_) (fun rest9 => ?_)
                  · obtain ⟨v3, l213⟩ := s
                    have h : VC24_k9 v37 row X2 v3 l213 := h
                    unfold VC24_k9 at h
                    refine inlQ_n (.v (.c (.p (.int .i64) v3))) (by kernel_rfl) rfl ?_
                    refine awd_conv [.prune [1, 2, 5, 6, 7, 8, 9, 36, 37, 40, 41, 50] [1, 2, 5, 7, 21, 34, 6142]] (st' := (⟨81, [(1, [], .v (.c (.ptr 1 0))), (2, [], .v (.c (.ptr 2 0))), (5, [], .v (.c (.ptr 5 0))), (6, [], .v (.c (.cl 47 [.pt 5 0]))), (7, [], .v (.c (.ptr 7 0))), (8, [], .v (.c (.p (.int .i64) i))), (9, [], .v (.c (.own 34))), (36, [], .v (.c (.p (.int .i64) ((List.replicate (n.2.1).toNat (0 : Int)).length : Int)))), (37, [], .v (.c (.p (.int .i64) v37))), (40, [], .v (.c (.own 34))), (41, [], .v (.c (.p (.int .i64) v37))), (50, [], .v (.c (.p (.int .i64) v3)))], [(1, [], .box [.p (.int .i64) n.1, .p (.int .i64) n.2.1, .p (.sl (.pr (.int .i64) (.pr (.int .i64) (.int .i64)))) n.2.2.1, .p (.int .u32) n.2.2.2.1, .p (.int .u32) n.2.2.2.2]), (2, [], .box [.p (.int .i64) (0 : Int), .p (.int .i64) (0 : Int), .nils, .p (.int .i64) (0 : Int), .p (.int .u32) (0 : Int)]), (5, [], .box [.own 21]), (7, [], .box [.p (.int .i64) (0 : Int), .p (.int .i64) n.2.1, .own 6142, .p (.int .i64) (0 : Int), .p (.int .u32) out]), (21, [], .arr 23 (.int .u32) l213), (34, [], .arr 3 (.int .i64) row), (6142, [], .arr 26 (.sl (.int .i64)) l6142)]⟩ : St)) (by kernel_rfl) rfl ?_
                    obtain ⟨o1, h⟩ := h
                    refine awd_runp (by kernel_rfl) [11] [1, 2, 5, 6, 7, 8, 9, 36, 37, 50, 51] [1, 2, 5, 7, 21, 34, 6142] (ob := (inIdx v37 row.length ∧ True)) (done' := [11, 10, 9, 3, 7, 6, 4, 8, 5, 2, 1, 0]) (st' := (⟨81, [(1, [], .v (.c (.ptr 1 0))), (2, [], .v (.c (.ptr 2 0))), (5, [], .v (.c (.ptr 5 0))), (6, [], .v (.c (.cl 47 [.pt 5 0]))), (7, [], .v (.c (.ptr 7 0))), (8, [], .v (.c (.p (.int .i64) i))), (9, [], .v (.c (.own 34))), (36, [], .v (.c (.p (.int .i64) ((List.replicate (n.2.1).toNat (0 : Int)).length : Int)))), (37, [], .v (.c (.p (.int .i64) v37))), (50, [], .v (.c (.p (.int .i64) v3))), (51, [], .v (.c (.el 34 ((v37).toNat) 1)))], [(1, [], .box [.p (.int .i64) n.1, .p (.int .i64) n.2.1, .p (.sl (.pr (.int .i64) (.pr (.int .i64) (.int .i64)))) n.2.2.1, .p (.int .u32) n.2.2.2.1, .p (.int .u32) n.2.2.2.2]), (2, [], .box [.p (.int .i64) (0 : Int), .p (.int .i64) (0 : Int), .nils, .p (.int .i64) (0 : Int), .p (.int .u32) (0 : Int)]), (5, [], .box [.own 21]), (7, [], .box [.p (.int .i64) (0 : Int), .p (.int .i64) n.2.1, .own 6142, .p (.int .i64) (0 : Int), .p (.int .u32) out]), (21, [], .arr 23 (.int .u32) l213), (34, [], .arr 3 (.int .i64) row), (6142, [], .arr 26 (.sl (.int .i64)) l6142)]⟩ : St)) (by kernel_rfl) ⟨o1, trivial⟩ ?_
                    refine awd_one (i := 12) (by kernel_rfl) ?_
                    refine adop_stepp [1, 2, 5, 6, 7, 8, 9, 36, 37] [1, 2, 5, 7, 21, 34, 6142] (ob := True) (st' := (⟨81, [(1, [], .v (.c (.ptr 1 0))), (2, [], .v (.c (.ptr 2 0))), (5, [], .v (.c (.ptr 5 0))), (6, [], .v (.c (.cl 47 [.pt 5 0]))), (7, [], .v (.c (.ptr 7 0))), (8, [], .v (.c (.p (.int .i64) i))), (9, [], .v (.c (.own 34))), (36, [], .v (.c (.p (.int .i64) ((List.replicate (n.2.1).toNat (0 : Int)).length : Int)))), (37, [], .v (.c (.p (.int .i64) v37)))], [(1, [], .box [.p (.int .i64) n.1, .p (.int .i64) n.2.1, .p (.sl (.pr (.int .i64) (.pr (.int .i64) (.int .i64)))) n.2.2.1, .p (.int .u32) n.2.2.2.1, .p (.int .u32) n.2.2.2.2]), (2, [], .box [.p (.int .i64) (0 : Int), .p (.int .i64) (0 : Int), .nils, .p (.int .i64) (0 : Int), .p (.int .u32) (0 : Int)]), (5, [], .box [.own 21]), (7, [], .box [.p (.int .i64) (0 : Int), .p (.int .i64) n.2.1, .own 6142, .p (.int .i64) (0 : Int), .p (.int .u32) out]), (21, [], .arr 23 (.int .u32) l213), (34, [], .arr 3 (.int .i64) (row.set ((v37).toNat) v3)), (6142, [], .arr 26 (.sl (.int .i64)) l6142)]⟩ : St)) rfl (by kernel_rfl) trivial ?_
                    refine awd_done (by kernel_rfl) ?_
                    exact rest4 (l213, (row.set ((v37).toNat) v3)) h
                  · refine aw_seq ?_
                    refine aw_region ?_
                    refine awl_runp 1 [0, 1, 26, 27, 30, 31, 32, 33, 34, 61, 62, 65, 66] [1, 2, 5, 7, 21, 34, 6142] (ob := (True ∧ True)) (st' := (⟨25, [(0, [], .v (.c (.p (.int .u32) ret49v))), (1, [], .v (.c (.ptr 5 0))), (26, [], .v (.c (.ptr 1 0))), (27, [], .v (.c (.ptr 2 0))), (30, [], .v (.c (.ptr 5 0))), (31, [], .v (.c (.cl 47 [.pt 5 0]))), (32, [], .v (.c (.ptr 7 0))), (33, [], .v (.c (.p (.int .i64) i))), (34, [], .v (.c (.own 34))), (61, [], .v (.c (.p (.int .i64) ((List.replicate (n.2.1).toNat (0 : Int)).length : Int)))), (62, [], .v (.c (.p (.int .i64) v37))), (65, [], .v (.c (.own 34))), (66, [], .v (.c (.p (.int .i64) v37)))], [(1, [], .box [.p (.int .i64) n.1, .p (.int .i64) n.2.1, .p (.sl (.pr (.int .i64) (.pr (.int .i64) (.int .i64)))) n.2.2.1, .p (.int .u32) n.2.2.2.1, .p (.int .u32) n.2.2.2.2]), (2, [], .box [.p (.int .i64) (0 : Int), .p (.int .i64) (0 : Int), .nils, .p (.int .i64) (0 : Int), .p (.int .u32) (0 : Int)]), (5, [], .box [.own 21]), (7, [], .box [.p (.int .i64) (0 : Int), .p (.int .i64) n.2.1, .own 6142, .p (.int .i64) (0 : Int), .p (.int .u32) out]), (21, [], .arr 23 (.int .u32) l212), (34, [], .arr 3 (.int .i64) row), (6142, [], .arr 26 (.sl (.int .i64)) l6142)]⟩ : St)) (by kernel_rfl) ⟨trivial, trivial⟩ ?_
                    refine awl_nil ?_
                    refine thenQ_n ?_
                    refine aw_seq ?_
                    refine aw_seq ?_
                    refine aw_region ?_
                    refine awl_runp 3 [0, 1, 6, 7, 8, 26, 27, 30, 31, 32, 33, 34, 61, 62, 65, 66] [1, 2, 5, 7, 21, 34, 6142] (ob := (True ∧ True ∧ True ∧ True)) (st' := (⟨25, [(0, [], .v (.c (.p (.int .u32) ret49v))), (1, [], .v (.c (.ptr 5 0))), (6, [], .v (.c (.own 21))), (7, [], .v (.c (.p (.int .i64) (l212.length : Int)))), (8, [], .v (.c (.p (.int .i64) (0 : Int)))), (26, [], .v (.c (.ptr 1 0))), (27, [], .v (.c (.ptr 2 0))), (30, [], .v (.c (.ptr 5 0))), (31, [], .v (.c (.cl 47 [.pt 5 0]))), (32, [], .v (.c (.ptr 7 0))), (33, [], .v (.c (.p (.int .i64) i))), (34, [], .v (.c (.own 34))), (61, [], .v (.c (.p (.int .i64) ((List.replicate (n.2.1).toNat (0 : Int)).length : Int)))), (62, [], .v (.c (.p (.int .i64) v37))), (65, [], .v (.c (.own 34))), (66, [], .v (.c (.p (.int .i64) v37)))], [(1, [], .box [.p (.int .i64) n.1, .p (.int .i64) n.2.1, .p (.sl (.pr (.int .i64) (.pr (.int .i64) (.int .i64)))) n.2.2.1, .p (.int .u32) n.2.2.2.1, .p (.int .u32) n.2.2.2.2]), (2, [], .box [.p (.int .i64) (0 : Int), .p (.int .i64) (0 : Int), .nils, .p (.int .i64) (0 : Int), .p (.int .u32) (0 : Int)]), (5, [], .box [.own 21]), (7, [], .box [.p (.int .i64) (0 : Int), .p (.int .i64) n.2.1, .own 6142, .p (.int .i64) (0 : Int), .p (.int .u32) out]), (21, [], .arr 23 (.int .u32) l212), (34, [], .arr 3 (.int .i64) row), (6142, [], .arr 26 (.sl (.int .i64)) l6142)]⟩ : St)) (by kernel_rfl) ⟨trivial, trivial, trivial, trivial⟩ ?_
                    refine awl_nil ?_
                    refine thenQ_n ?_
                    refine withJoin (σ := Unit) (fun s => (⟨25, [(0, [], .v (.c (.p (.int .u32) ret49v))), (1, [], .v (.c (.ptr 5 0))), (26, [], .v (.c (.ptr 1 0))), (27, [], .v (.c (.ptr 2 0))), (30, [], .v (.c (.ptr 5 0))), (31, [], .v (.c (.cl 47 [.pt 5 0]))), (32, [], .v (.c (.ptr 7 0))), (33, [], .v (.c (.p (.int .i64) i))), (34, [], .v (.c (.own 34))), (61, [], .v (.c (.p (.int .i64) ((List.replicate (n.2.1).toNat (0 : Int)).length : Int)))), (62, [], .v (.c (.p (.int .i64) v37))), (65, [], .v (.c (.own 34))), (66, [], .v (.c (.p (.int .i64) v37)))], [(1, [], .box [.p (.int .i64) n.1, .p (.int .i64) n.2.1, .p (.sl (.pr (.int .i64) (.pr (.int .i64) (.int .i64)))) n.2.2.1, .p (.int .u32) n.2.2.2.1, .p (.int .u32) n.2.2.2.2]), (2, [], .box [.p (.int .i64) (0 : Int), .p (.int .i64) (0 : Int), .nils, .p (.int .i64) (0 : Int), .p (.int .u32) (0 : Int)]), (5, [], .box [.own 21]), (7, [], .box [.p (.int .i64) (0 : Int), .p (.int .i64) n.2.1, .own 6142, .p (.int .i64) (0 : Int), .p (.int .u32) out]), (21, [], .arr 23 (.int .u32) l212), (34, [], .arr 3 (.int .i64) row), (6142, [], .arr 26 (.sl (.int .i64)) l6142)]⟩ : St)) (fun s => VC24_k10 v37 l212 row X2 ret49v) (fun s h => ?_) (fun rest10 => ?_)
                    · have h : VC24_k10 v37 l212 row X2 ret49v := h
                      unfold VC24_k10 at h
                      refine thenQ_n ?_
                      refine aw_seq ?_
                      refine aw_region ?_
                      obtain ⟨o1, h⟩ := h
                      refine awl_runp 5 [1, 26, 27, 30, 31, 32, 33, 34, 61, 62, 65, 66] [1, 2, 5, 7, 21, 34, 6142] (ob := (True ∧ True ∧ True ∧ roomN (l212.length + [ret49v].length) ∧ True ∧ True)) (st' := (⟨25, [(1, [], .v (.c (.ptr 5 0))), (26, [], .v (.c (.ptr 1 0))), (27, [], .v (.c (.ptr 2 0))), (30, [], .v (.c (.ptr 5 0))), (31, [], .v (.c (.cl 47 [.pt 5 0]))), (32, [], .v (.c (.ptr 7 0))), (33, [], .v (.c (.p (.int .i64) i))), (34, [], .v (.c (.own 34))), (61, [], .v (.c (.p (.int .i64) ((List.replicate (n.2.1).toNat (0 : Int)).length : Int)))), (62, [], .v (.c (.p (.int .i64) v37))), (65, [], .v (.c (.own 34))), (66, [], .v (.c (.p (.int .i64) v37)))], [(1, [], .box [.p (.int .i64) n.1, .p (.int .i64) n.2.1, .p (.sl (.pr (.int .i64) (.pr (.int .i64) (.int .i64)))) n.2.2.1, .p (.int .u32) n.2.2.2.1, .p (.int .u32) n.2.2.2.2]), (2, [], .box [.p (.int .i64) (0 : Int), .p (.int .i64) (0 : Int), .nils, .p (.int .i64) (0 : Int), .p (.int .u32) (0 : Int)]), (5, [], .box [.own 21]), (7, [], .box [.p (.int .i64) (0 : Int), .p (.int .i64) n.2.1, .own 6142, .p (.int .i64) (0 : Int), .p (.int .u32) out]), (21, [], .arr 23 (.int .u32) (l212 ++ [ret49v])), (34, [], .arr 3 (.int .i64) row), (6142, [], .arr 26 (.sl (.int .i64)) l6142)]⟩ : St)) (by kernel_rfl) ⟨trivial, trivial, trivial, o1, trivial, trivial⟩ ?_
                      refine awl_nil ?_
                      refine thenQ_n ?_
                      refine aw_seq ?_
                      refine aw_region ?_
                      obtain ⟨o1, h⟩ := h
                      refine awl_runp 4 [3, 26, 27, 30, 31, 32, 33, 34, 61, 62, 65, 66] [1, 2, 5, 7, 21, 34, 6142] (ob := (True ∧ True ∧ InR (((l212 ++ [ret49v]).length : Int) - (1 : Int)) ∧ True ∧ True)) (st' := (⟨25, [(3, [], .v (.c (.p (.int .i64) (((l212 ++ [ret49v]).length : Int) - (1 : Int))))), (26, [], .v (.c (.ptr 1 0))), (27, [], .v (.c (.ptr 2 0))), (30, [], .v (.c (.ptr 5 0))), (31, [], .v (.c (.cl 47 [.pt 5 0]))), (32, [], .v (.c (.ptr 7 0))), (33, [], .v (.c (.p (.int .i64) i))), (34, [], .v (.c (.own 34))), (61, [], .v (.c (.p (.int .i64) ((List.replicate (n.2.1).toNat (0 : Int)).length : Int)))), (62, [], .v (.c (.p (.int .i64) v37))), (65, [], .v (.c (.own 34))), (66, [], .v (.c (.p (.int .i64) v37)))], [(1, [], .box [.p (.int .i64) n.1, .p (.int .i64) n.2.1, .p (.sl (.pr (.int .i64) (.pr (.int .i64) (.int .i64)))) n.2.2.1, .p (.int .u32) n.2.2.2.1, .p (.int .u32) n.2.2.2.2]), (2, [], .box [.p (.int .i64) (0 : Int), .p (.int .i64) (0 : Int), .nils, .p (.int .i64) (0 : Int), .p (.int .u32) (0 : Int)]), (5, [], .box [.own 21]), (7, [], .box [.p (.int .i64) (0 : Int), .p (.int .i64) n.2.1, .own 6142, .p (.int .i64) (0 : Int), .p (.int .u32) out]), (21, [], .arr 23 (.int .u32) (l212 ++ [ret49v])), (34, [], .arr 3 (.int .i64) row), (6142, [], .arr 26 (.sl (.int .i64)) l6142)]⟩ : St)) (by kernel_rfl) ⟨trivial, trivial, o1, trivial, trivial⟩ ?_
                      refine awl_nil ?_
                      refine thenQ_n ?_
                      refine aw_ret ?_
                      exact rest9 ((((l212 ++ [ret49v]).length : Int) - (1 : Int)), (l212 ++ [ret49v])) h
                    · refine aw_block ?_
                      refine aw_loop (σ := Int) (fun s => (⟨25, [(0, [], .v (.c (.p (.int .u32) ret49v))), (1, [], .v (.c (.ptr 5 0))), (6, [], .v (.c (.own 21))), (7, [], .v (.c (.p (.int .i64) (l212.length : Int)))), (8, [], .v (.c (.p (.int .i64) s))), (26, [], .v (.c (.ptr 1 0))), (27, [], .v (.c (.ptr 2 0))), (30, [], .v (.c (.ptr 5 0))), (31, [], .v (.c (.cl 47 [.pt 5 0]))), (32, [], .v (.c (.ptr 7 0))), (33, [], .v (.c (.p (.int .i64) i))), (34, [], .v (.c (.own 34))), (61, [], .v (.c (.p (.int .i64) ((List.replicate (n.2.1).toNat (0 : Int)).length : Int)))), (62, [], .v (.c (.p (.int .i64) v37))), (65, [], .v (.c (.own 34))), (66, [], .v (.c (.p (.int .i64) v37)))], [(1, [], .box [.p (.int .i64) n.1, .p (.int .i64) n.2.1, .p (.sl (.pr (.int .i64) (.pr (.int .i64) (.int .i64)))) n.2.2.1, .p (.int .u32) n.2.2.2.1, .p (.int .u32) n.2.2.2.2]), (2, [], .box [.p (.int .i64) (0 : Int), .p (.int .i64) (0 : Int), .nils, .p (.int .i64) (0 : Int), .p (.int .u32) (0 : Int)]), (5, [], .box [.own 21]), (7, [], .box [.p (.int .i64) (0 : Int), .p (.int .i64) n.2.1, .own 6142, .p (.int .i64) (0 : Int), .p (.int .u32) out]), (21, [], .arr 23 (.int .u32) l212), (34, [], .arr 3 (.int .i64) row), (6142, [], .arr 26 (.sl (.int .i64)) l6142)]⟩ : St)) (fun s X => VC24_l5 v37 l212 row X2 ret49v s X) (s0 := (0 : Int)) (fun v8 X5 h => ?_) h
                      have h : VC24_l5 v37 l212 row X2 ret49v v8 X5 := h
                      unfold VC24_l5 at h
                      refine aw_seq ?_
                      refine aw_region ?_
                      refine awl_runp 1 [0, 1, 6, 7, 8, 9, 26, 27, 30, 31, 32, 33, 34, 61, 62, 65, 66] [1, 2, 5, 7, 21, 34, 6142] (ob := (True ∧ True)) (st' := (⟨25, [(0, [], .v (.c (.p (.int .u32) ret49v))), (1, [], .v (.c (.ptr 5 0))), (6, [], .v (.c (.own 21))), (7, [], .v (.c (.p (.int .i64) (l212.length : Int)))), (8, [], .v (.c (.p (.int .i64) v8))), (9, [], .v (.c (.p .bool (decide (v8 < (l212.length : Int)))))), (26, [], .v (.c (.ptr 1 0))), (27, [], .v (.c (.ptr 2 0))), (30, [], .v (.c (.ptr 5 0))), (31, [], .v (.c (.cl 47 [.pt 5 0]))), (32, [], .v (.c (.ptr 7 0))), (33, [], .v (.c (.p (.int .i64) i))), (34, [], .v (.c (.own 34))), (61, [], .v (.c (.p (.int .i64) ((List.replicate (n.2.1).toNat (0 : Int)).length : Int)))), (62, [], .v (.c (.p (.int .i64) v37))), (65, [], .v (.c (.own 34))), (66, [], .v (.c (.p (.int .i64) v37)))], [(1, [], .box [.p (.int .i64) n.1, .p (.int .i64) n.2.1, .p (.sl (.pr (.int .i64) (.pr (.int .i64) (.int .i64)))) n.2.2.1, .p (.int .u32) n.2.2.2.1, .p (.int .u32) n.2.2.2.2]), (2, [], .box [.p (.int .i64) (0 : Int), .p (.int .i64) (0 : Int), .nils, .p (.int .i64) (0 : Int), .p (.int .u32) (0 : Int)]), (5, [], .box [.own 21]), (7, [], .box [.p (.int .i64) (0 : Int), .p (.int .i64) n.2.1, .own 6142, .p (.int .i64) (0 : Int), .p (.int .u32) out]), (21, [], .arr 23 (.int .u32) l212), (34, [], .arr 3 (.int .i64) row), (6142, [], .arr 26 (.sl (.int .i64)) l6142)]⟩ : St)) (by kernel_rfl) ⟨trivial, trivial⟩ ?_
                      refine awl_nil ?_
                      refine thenQ_n ?_
                      refine aw_seq ?_
                      refine aw_cond (b := (decide (v8 < (l212.length : Int)))) (by kernel_rfl) (fun hb => ?_) (fun hb => ?_)
                      · have h := h.1 hb
                        refine aw_skip ?_
                        refine thenQ_n ?_
                        refine aw_seq ?_
                        refine aw_block ?_
                        refine aw_seq ?_
                        refine aw_region ?_
                        obtain ⟨o1, h⟩ := h
                        refine awl_runp 5 [0, 1, 4, 5, 6, 7, 8, 26, 27, 30, 31, 32, 33, 34, 61, 62, 65, 66] [1, 2, 5, 7, 21, 34, 6142] (ob := (True ∧ inIdx v8 l212.length ∧ True ∧ True ∧ True ∧ True)) (st' := (⟨25, [(0, [], .v (.c (.p (.int .u32) ret49v))), (1, [], .v (.c (.ptr 5 0))), (4, [], .v (.c (.p (.int .i64) v8))), (5, [], .v (.c (.p (.int .u32) (l212.getD ((v8).toNat) (0 : Int))))), (6, [], .v (.c (.own 21))), (7, [], .v (.c (.p (.int .i64) (l212.length : Int)))), (8, [], .v (.c (.p (.int .i64) v8))), (26, [], .v (.c (.ptr 1 0))), (27, [], .v (.c (.ptr 2 0))), (30, [], .v (.c (.ptr 5 0))), (31, [], .v (.c (.cl 47 [.pt 5 0]))), (32, [], .v (.c (.ptr 7 0))), (33, [], .v (.c (.p (.int .i64) i))), (34, [], .v (.c (.own 34))), (61, [], .v (.c (.p (.int .i64) ((List.replicate (n.2.1).toNat (0 : Int)).length : Int)))), (62, [], .v (.c (.p (.int .i64) v37))), (65, [], .v (.c (.own 34))), (66, [], .v (.c (.p (.int .i64) v37)))], [(1, [], .box [.p (.int .i64) n.1, .p (.int .i64) n.2.1, .p (.sl (.pr (.int .i64) (.pr (.int .i64) (.int .i64)))) n.2.2.1, .p (.int .u32) n.2.2.2.1, .p (.int .u32) n.2.2.2.2]), (2, [], .box [.p (.int .i64) (0 : Int), .p (.int .i64) (0 : Int), .nils, .p (.int .i64) (0 : Int), .p (.int .u32) (0 : Int)]), (5, [], .box [.own 21]), (7, [], .box [.p (.int .i64) (0 : Int), .p (.int .i64) n.2.1, .own 6142, .p (.int .i64) (0 : Int), .p (.int .u32) out]), (21, [], .arr 23 (.int .u32) l212), (34, [], .arr 3 (.int .i64) row), (6142, [], .arr 26 (.sl (.int .i64)) l6142)]⟩ : St)) (by kernel_rfl) ⟨trivial, o1, trivial, trivial, trivial, trivial⟩ ?_
                        refine awl_nil ?_
                        refine thenQ_n ?_
                        refine aw_seq ?_
                        refine aw_region ?_
                        refine awl_runp 3 [0, 1, 4, 6, 7, 8, 15, 26, 27, 30, 31, 32, 33, 34, 61, 62, 65, 66] [1, 2, 5, 7, 21, 34, 6142] (ob := (True ∧ True ∧ True ∧ True)) (st' := (⟨25, [(0, [], .v (.c (.p (.int .u32) ret49v))), (1, [], .v (.c (.ptr 5 0))), (4, [], .v (.c (.p (.int .i64) v8))), (6, [], .v (.c (.own 21))), (7, [], .v (.c (.p (.int .i64) (l212.length : Int)))), (8, [], .v (.c (.p (.int .i64) v8))), (15, [], .v (.c (.p .bool (decide ((l212.getD ((v8).toNat) (0 : Int)) = ret49v))))), (26, [], .v (.c (.ptr 1 0))), (27, [], .v (.c (.ptr 2 0))), (30, [], .v (.c (.ptr 5 0))), (31, [], .v (.c (.cl 47 [.pt 5 0]))), (32, [], .v (.c (.ptr 7 0))), (33, [], .v (.c (.p (.int .i64) i))), (34, [], .v (.c (.own 34))), (61, [], .v (.c (.p (.int .i64) ((List.replicate (n.2.1).toNat (0 : Int)).length : Int)))), (62, [], .v (.c (.p (.int .i64) v37))), (65, [], .v (.c (.own 34))), (66, [], .v (.c (.p (.int .i64) v37)))], [(1, [], .box [.p (.int .i64) n.1, .p (.int .i64) n.2.1, .p (.sl (.pr (.int .i64) (.pr (.int .i64) (.int .i64)))) n.2.2.1, .p (.int .u32) n.2.2.2.1, .p (.int .u32) n.2.2.2.2]), (2, [], .box [.p (.int .i64) (0 : Int), .p (.int .i64) (0 : Int), .nils, .p (.int .i64) (0 : Int), .p (.int .u32) (0 : Int)]), (5, [], .box [.own 21]), (7, [], .box [.p (.int .i64) (0 : Int), .p (.int .i64) n.2.1, .own 6142, .p (.int .i64) (0 : Int), .p (.int .u32) out]), (21, [], .arr 23 (.int .u32) l212), (34, [], .arr 3 (.int .i64) row), (6142, [], .arr 26 (.sl (.int .i64)) l6142)]⟩ : St)) (by kernel_rfl) ⟨trivial, trivial, trivial, trivial⟩ ?_
                        refine awl_nil ?_
                        refine thenQ_n ?_
                        refine aw_cond (b := (decide ((l212.getD ((v8).toNat) (0 : Int)) = ret49v))) (by kernel_rfl) (fun hb => ?_) (fun hb => ?_)
                        · have h := h.1 hb
                          refine aw_seq ?_
                          refine aw_region ?_
                          refine awl_runp 2 [3, 26, 27, 30, 31, 32, 33, 34, 61, 62, 65, 66] [1, 2, 5, 7, 21, 34, 6142] (ob := (True ∧ True ∧ True)) (st' := (⟨25, [(3, [], .v (.c (.p (.int .i64) v8))), (26, [], .v (.c (.ptr 1 0))), (27, [], .v (.c (.ptr 2 0))), (30, [], .v (.c (.ptr 5 0))), (31, [], .v (.c (.cl 47 [.pt 5 0]))), (32, [], .v (.c (.ptr 7 0))), (33, [], .v (.c (.p (.int .i64) i))), (34, [], .v (.c (.own 34))), (61, [], .v (.c (.p (.int .i64) ((List.replicate (n.2.1).toNat (0 : Int)).length : Int)))), (62, [], .v (.c (.p (.int .i64) v37))), (65, [], .v (.c (.own 34))), (66, [], .v (.c (.p (.int .i64) v37)))], [(1, [], .box [.p (.int .i64) n.1, .p (.int .i64) n.2.1, .p (.sl (.pr (.int .i64) (.pr (.int .i64) (.int .i64)))) n.2.2.1, .p (.int .u32) n.2.2.2.1, .p (.int .u32) n.2.2.2.2]), (2, [], .box [.p (.int .i64) (0 : Int), .p (.int .i64) (0 : Int), .nils, .p (.int .i64) (0 : Int), .p (.int .u32) (0 : Int)]), (5, [], .box [.own 21]), (7, [], .box [.p (.int .i64) (0 : Int), .p (.int .i64) n.2.1, .own 6142, .p (.int .i64) (0 : Int), .p (.int .u32) out]), (21, [], .arr 23 (.int .u32) l212), (34, [], .arr 3 (.int .i64) row), (6142, [], .arr 26 (.sl (.int .i64)) l6142)]⟩ : St)) (by kernel_rfl) ⟨trivial, trivial, trivial⟩ ?_
                          refine awl_nil ?_
                          refine thenQ_n ?_
                          refine aw_ret ?_
                          refine blockQ_r ?_
                          refine thenQ_r ?_
                          refine thenQ_r ?_
                          refine blockQ_r ?_
                          refine thenQ_r ?_
                          exact rest9 (v8, l212) h
                        · have h := h.2 hb
                          refine aw_skip ?_
                          refine blockQ_n ?_
                          refine thenQ_n ?_
                          refine aw_region ?_
                          obtain ⟨o1, h⟩ := h
                          refine awl_runp 2 [0, 1, 6, 7, 8, 26, 27, 30, 31, 32, 33, 34, 61, 62, 65, 66] [1, 2, 5, 7, 21, 34, 6142] (ob := (InR (v8 + (1 : Int)) ∧ True ∧ True)) (st' := (⟨25, [(0, [], .v (.c (.p (.int .u32) ret49v))), (1, [], .v (.c (.ptr 5 0))), (6, [], .v (.c (.own 21))), (7, [], .v (.c (.p (.int .i64) (l212.length : Int)))), (8, [], .v (.c (.p (.int .i64) (v8 + (1 : Int))))), (26, [], .v (.c (.ptr 1 0))), (27, [], .v (.c (.ptr 2 0))), (30, [], .v (.c (.ptr 5 0))), (31, [], .v (.c (.cl 47 [.pt 5 0]))), (32, [], .v (.c (.ptr 7 0))), (33, [], .v (.c (.p (.int .i64) i))), (34, [], .v (.c (.own 34))), (61, [], .v (.c (.p (.int .i64) ((List.replicate (n.2.1).toNat (0 : Int)).length : Int)))), (62, [], .v (.c (.p (.int .i64) v37))), (65, [], .v (.c (.own 34))), (66, [], .v (.c (.p (.int .i64) v37)))], [(1, [], .box [.p (.int .i64) n.1, .p (.int .i64) n.2.1, .p (.sl (.pr (.int .i64) (.pr (.int .i64) (.int .i64)))) n.2.2.1, .p (.int .u32) n.2.2.2.1, .p (.int .u32) n.2.2.2.2]), (2, [], .box [.p (.int .i64) (0 : Int), .p (.int .i64) (0 : Int), .nils, .p (.int .i64) (0 : Int), .p (.int .u32) (0 : Int)]), (5, [], .box [.own 21]), (7, [], .box [.p (.int .i64) (0 : Int), .p (.int .i64) n.2.1, .own 6142, .p (.int .i64) (0 : Int), .p (.int .u32) out]), (21, [], .arr 23 (.int .u32) l212), (34, [], .arr 3 (.int .i64) row), (6142, [], .arr 26 (.sl (.int .i64)) l6142)]⟩ : St)) (by kernel_rfl) ⟨o1, trivial, trivial⟩ ?_
                          refine awl_nil ?_
                          exact thenQ_n ⟨(v8 + (1 : Int)), rfl, h⟩
                      · have h := h.2 hb
                        refine aw_conv [.prune [0, 1, 26, 27, 30, 31, 32, 33, 34, 61, 62, 65, 66] [1, 2, 5, 7, 21, 34, 6142]] (st' := (⟨25, [(0, [], .v (.c (.p (.int .u32) ret49v))), (1, [], .v (.c (.ptr 5 0))), (26, [], .v (.c (.ptr 1 0))), (27, [], .v (.c (.ptr 2 0))), (30, [], .v (.c (.ptr 5 0))), (31, [], .v (.c (.cl 47 [.pt 5 0]))), (32, [], .v (.c (.ptr 7 0))), (33, [], .v (.c (.p (.int .i64) i))), (34, [], .v (.c (.own 34))), (61, [], .v (.c (.p (.int .i64) ((List.replicate (n.2.1).toNat (0 : Int)).length : Int)))), (62, [], .v (.c (.p (.int .i64) v37))), (65, [], .v (.c (.own 34))), (66, [], .v (.c (.p (.int .i64) v37)))], [(1, [], .box [.p (.int .i64) n.1, .p (.int .i64) n.2.1, .p (.sl (.pr (.int .i64) (.pr (.int .i64) (.int .i64)))) n.2.2.1, .p (.int .u32) n.2.2.2.1, .p (.int .u32) n.2.2.2.2]), (2, [], .box [.p (.int .i64) (0 : Int), .p (.int .i64) (0 : Int), .nils, .p (.int .i64) (0 : Int), .p (.int .u32) (0 : Int)]), (5, [], .box [.own 21]), (7, [], .box [.p (.int .i64) (0 : Int), .p (.int .i64) n.2.1, .own 6142, .p (.int .i64) (0 : Int), .p (.int .u32) out]), (21, [], .arr 23 (.int .u32) l212), (34, [], .arr 3 (.int .i64) row), (6142, [], .arr 26 (.sl (.int .i64)) l6142)]⟩ : St)) (by kernel_rfl) ?_
                        refine aw_exit ?_
                        refine thenQ_x ?_
                        refine thenQ_x ?_
                        refine blockQ_hit ?_
                        exact rest10 () h
          · have h := h.2 hb
            refine aw_conv [.prune [1, 2, 5, 6, 7, 8, 9] [1, 2, 5, 7, 21, 34, 6142]] (st' := (⟨81, [(1, [], .v (.c (.ptr 1 0))), (2, [], .v (.c (.ptr 2 0))), (5, [], .v (.c (.ptr 5 0))), (6, [], .v (.c (.cl 47 [.pt 5 0]))), (7, [], .v (.c (.ptr 7 0))), (8, [], .v (.c (.p (.int .i64) i))), (9, [], .v (.c (.own 34)))], [(1, [], .box [.p (.int .i64) n.1, .p (.int .i64) n.2.1, .p (.sl (.pr (.int .i64) (.pr (.int .i64) (.int .i64)))) n.2.2.1, .p (.int .u32) n.2.2.2.1, .p (.int .u32) n.2.2.2.2]), (2, [], .box [.p (.int .i64) (0 : Int), .p (.int .i64) (0 : Int), .nils, .p (.int .i64) (0 : Int), .p (.int .u32) (0 : Int)]), (5, [], .box [.own 21]), (7, [], .box [.p (.int .i64) (0 : Int), .p (.int .i64) n.2.1, .own 6142, .p (.int .i64) (0 : Int), .p (.int .u32) out]), (21, [], .arr 23 (.int .u32) l212), (34, [], .arr 3 (.int .i64) row), (6142, [], .arr 26 (.sl (.int .i64)) l6142)]⟩ : St)) (by kernel_rfl) ?_
            refine aw_exit ?_
            refine thenQ_x ?_
            refine thenQ_x ?_
            refine blockQ_hit ?_
            exact rest3 (l212, row) h
      · have h := h.2 hb
        refine aw_conv [.prune [2, 5, 7] [2, 5, 7, 21, 6142]] (st' := (⟨81, [(2, [], .v (.c (.ptr 2 0))), (5, [], .v (.c (.ptr 5 0))), (7, [], .v (.c (.ptr 7 0)))], [(2, [], .box [.p (.int .i64) (0 : Int), .p (.int .i64) (0 : Int), .nils, .p (.int .i64) (0 : Int), .p (.int .u32) (0 : Int)]), (5, [], .box [.own 21]), (7, [], .box [.p (.int .i64) (0 : Int), .p (.int .i64) n.2.1, .own 6142, .p (.int .i64) (0 : Int), .p (.int .u32) out]), (21, [], .arr 23 (.int .u32) l21), (6142, [], .arr 26 (.sl (.int .i64)) l6142)]⟩ : St)) (by kernel_rfl) ?_
        refine aw_exit ?_
        refine thenQ_x ?_
        refine thenQ_x ?_
        refine blockQ_hit ?_
        exact rest1 (out, l21, l6142) h

-- coppicer/coppicerref.NetCheck
def VC22_k1 (n : (Int × (Int × ((List (Int × (Int × Int))) × (Int × Int))))) (K : Int → Prop) : Prop :=
  (0 ≤ (IntKind.wrap .u64 n.1) ∧ ((decide ((bShl .u32 (1 : Int) (IntKind.wrap .u64 n.1)) ≤ n.2.2.2.1)) = false → 0 ≤ (IntKind.wrap .u64 n.1)) ∧ ((((decide ((bShl .u32 (1 : Int) (IntKind.wrap .u64 n.1)) ≤ n.2.2.2.1)) || (decide ((bShl .u32 (1 : Int) (IntKind.wrap .u64 n.1)) ≤ n.2.2.2.2))) = true → K (4 : Int)) ∧ (((decide ((bShl .u32 (1 : Int) (IntKind.wrap .u64 n.1)) ≤ n.2.2.2.1)) || (decide ((bShl .u32 (1 : Int) (IntKind.wrap .u64 n.1)) ≤ n.2.2.2.2))) = false → K (0 : Int))))

def VC22_l1 (n : (Int × (Int × ((List (Int × (Int × Int))) × (Int × Int))))) (K : Int → Prop) (v32 : Int) (X1 : Int → Prop) : Prop :=
  (((decide (v32 < (n.2.2.1.length : Int))) = true → (inIdx v32 n.2.2.1.length ∧ ((((((((decide ((n.2.2.1.getD (v32).toNat ((0 : Int), ((0 : Int), (0 : Int)))).1 < (0 : Int))) || (decide (n.1 ≤ (n.2.2.1.getD (v32).toNat ((0 : Int), ((0 : Int), (0 : Int)))).1))) || (decide ((n.2.2.1.getD (v32).toNat ((0 : Int), ((0 : Int), (0 : Int)))).2.2 < (0 : Int)))) || (decide (n.1 ≤ (n.2.2.1.getD (v32).toNat ((0 : Int), ((0 : Int), (0 : Int)))).2.2))) || (decide ((n.2.2.1.getD (v32).toNat ((0 : Int), ((0 : Int), (0 : Int)))).2.1 < (-1 : Int)))) || (decide (n.2.1 ≤ (n.2.2.1.getD (v32).toNat ((0 : Int), ((0 : Int), (0 : Int)))).2.1))) = true → K (2 : Int)) ∧ (((((((decide ((n.2.2.1.getD (v32).toNat ((0 : Int), ((0 : Int), (0 : Int)))).1 < (0 : Int))) || (decide (n.1 ≤ (n.2.2.1.getD (v32).toNat ((0 : Int), ((0 : Int), (0 : Int)))).1))) || (decide ((n.2.2.1.getD (v32).toNat ((0 : Int), ((0 : Int), (0 : Int)))).2.2 < (0 : Int)))) || (decide (n.1 ≤ (n.2.2.1.getD (v32).toNat ((0 : Int), ((0 : Int), (0 : Int)))).2.2))) || (decide ((n.2.2.1.getD (v32).toNat ((0 : Int), ((0 : Int), (0 : Int)))).2.1 < (-1 : Int)))) || (decide (n.2.1 ≤ (n.2.2.1.getD (v32).toNat ((0 : Int), ((0 : Int), (0 : Int)))).2.1))) = false → (InR (v32 + (1 : Int)) ∧ X1 (v32 + (1 : Int))))))) ∧ ((decide (v32 < (n.2.2.1.length : Int))) = false → VC22_k1 n K))

def VC22 (n : (Int × (Int × ((List (Int × (Int × Int))) × (Int × Int))))) (K : Int → Prop) : Prop :=
  (((((((decide (n.1 < (1 : Int))) || (decide ((7 : Int) < n.1))) || (decide (n.2.1 < (1 : Int)))) || (decide ((3 : Int) < n.2.1))) || (decide ((60 : Int) < (n.2.2.1.length : Int)))) = true → K (1 : Int)) ∧ ((((((decide (n.1 < (1 : Int))) || (decide ((7 : Int) < n.1))) || (decide (n.2.1 < (1 : Int)))) || (decide ((3 : Int) < n.2.1))) || (decide ((60 : Int) < (n.2.2.1.length : Int)))) = false → Loop (σ := Int) (fun s X => VC22_l1 n K s X) (0 : Int)))

set_option maxHeartbeats 4000000 in
theorem link22 (n : (Int × (Int × ((List (Int × (Int × Int))) × (Int × Int))))) (K : Int → Prop) (h : VC22 n K) : ACalls Try.prog 22 [toV1 (.pr (.int .i64) (.pr (.int .i64) (.pr (.sl (.pr (.int .i64) (.pr (.int .i64) (.int .i64)))) (.pr (.int .u32) (.int .u32))))) n] (fun res => ∃ y, res = (fun y => [toV1 (.int .i64) y]) y ∧ K y) := by
  refine acalls_of_aw [(.int .i64)] [.t 2] Try.func22 rfl rfl rfl ?_
  unfold VC22 at h
  refine aw_seq ?_
  refine aw_region ?_
  refine awl_runp 2 [1] [1] (ob := (True ∧ True ∧ True)) (st' := (⟨87, [(1, [], .v (.c (.ptr 1 0)))], [(1, [], .box [.p (.int .i64) n.1, .p (.int .i64) n.2.1, .p (.sl (.pr (.int .i64) (.pr (.int .i64) (.int .i64)))) n.2.2.1, .p (.int .u32) n.2.2.2.1, .p (.int .u32) n.2.2.2.2])]⟩ : St)) (by kernel_rfl) ⟨trivial, trivial, trivial⟩ ?_
  refine awl_nil ?_
  refine thenQ_n ?_
  refine aw_seq ?_
  refine aw_seq ?_
  refine aw_region ?_
  refine awl_runp 24 [1, 28] [1] (ob := (True ∧ True ∧ True ∧ True ∧ ((decide (n.1 < (1 : Int))) = false → True) ∧ ((decide (n.1 < (1 : Int))) = false → True) ∧ ((decide (n.1 < (1 : Int))) = false → True) ∧ True ∧ True ∧ (((decide (n.1 < (1 : Int))) || (decide ((7 : Int) < n.1))) = false → True) ∧ (((decide (n.1 < (1 : Int))) || (decide ((7 : Int) < n.1))) = false → True) ∧ (((decide (n.1 < (1 : Int))) || (decide ((7 : Int) < n.1))) = false → True) ∧ True ∧ True ∧ ((((decide (n.1 < (1 : Int))) || (decide ((7 : Int) < n.1))) || (decide (n.2.1 < (1 : Int)))) = false → True) ∧ ((((decide (n.1 < (1 : Int))) || (decide ((7 : Int) < n.1))) || (decide (n.2.1 < (1 : Int)))) = false → True) ∧ ((((decide (n.1 < (1 : Int))) || (decide ((7 : Int) < n.1))) || (decide (n.2.1 < (1 : Int)))) = false → True) ∧ True ∧ True ∧ (((((decide (n.1 < (1 : Int))) || (decide ((7 : Int) < n.1))) || (decide (n.2.1 < (1 : Int)))) || (decide ((3 : Int) < n.2.1))) = false → True) ∧ (((((decide (n.1 < (1 : Int))) || (decide ((7 : Int) < n.1))) || (decide (n.2.1 < (1 : Int)))) || (decide ((3 : Int) < n.2.1))) = false → True) ∧ (((((decide (n.1 < (1 : Int))) || (decide ((7 : Int) < n.1))) || (decide (n.2.1 < (1 : Int)))) || (decide ((3 : Int) < n.2.1))) = false → True) ∧ (((((decide (n.1 < (1 : Int))) || (decide ((7 : Int) < n.1))) || (decide (n.2.1 < (1 : Int)))) || (decide ((3 : Int) < n.2.1))) = false → True) ∧ True ∧ True)) (st' := (⟨87, [(1, [], .v (.c (.ptr 1 0))), (28, [], .v (.c (.p .bool (((((decide (n.1 < (1 : Int))) || (decide ((7 : Int) < n.1))) || (decide (n.2.1 < (1 : Int)))) || (decide ((3 : Int) < n.2.1))) || (decide ((60 : Int) < (n.2.2.1.length : Int)))))))], [(1, [], .box [.p (.int .i64) n.1, .p (.int .i64) n.2.1, .p (.sl (.pr (.int .i64) (.pr (.int .i64) (.int .i64)))) n.2.2.1, .p (.int .u32) n.2.2.2.1, .p (.int .u32) n.2.2.2.2])]⟩ : St)) (by kernel_rfl) ⟨trivial, trivial, trivial, trivial, (fun _ => trivial), (fun _ => trivial), (fun _ => trivial), trivial, trivial, (fun _ => trivial), (fun _ => trivial), (fun _ => trivial), trivial, trivial, (fun _ => trivial), (fun _ => trivial), (fun _ => trivial), trivial, trivial, (fun _ => trivial), (fun _ => trivial), (fun _ => trivial), (fun _ => trivial), trivial, trivial⟩ ?_
  refine awl_nil ?_
  refine thenQ_n ?_
  refine aw_cond (b := (((((decide (n.1 < (1 : Int))) || (decide ((7 : Int) < n.1))) || (decide (n.2.1 < (1 : Int)))) || (decide ((3 : Int) < n.2.1))) || (decide ((60 : Int) < (n.2.2.1.length : Int))))) (by kernel_rfl) (fun hb => ?_) (fun hb => ?_)
  · have h := h.1 hb
    refine aw_seq ?_
    refine aw_region ?_
    refine awl_runp 1 [2] [] (ob := (True ∧ True)) (st' := (⟨87, [(2, [], .v (.c (.p (.int .i64) (1 : Int))))], []⟩ : St)) (by kernel_rfl) ⟨trivial, trivial⟩ ?_
    refine awl_nil ?_
    refine thenQ_n ?_
    refine aw_ret ?_
    refine thenQ_r ?_
    exact retQ_r (σ := Int) (R := (fun y => [toV1 (.int .i64) y])) (ob := (True ∧ True)) (1 : Int) (by kernel_rfl) ⟨trivial, trivial⟩ h
  · have h := h.2 hb
    refine aw_skip ?_
    refine thenQ_n ?_
    refine aw_seq ?_
    refine aw_seq ?_
    refine aw_region ?_
    refine awl_runp 4 [1, 30, 31, 32] [1] (ob := (True ∧ True ∧ True ∧ True ∧ True)) (st' := (⟨87, [(1, [], .v (.c (.ptr 1 0))), (30, [], .v (.c (.p (.sl (.pr (.int .i64) (.pr (.int .i64) (.int .i64)))) n.2.2.1))), (31, [], .v (.c (.p (.int .i64) (n.2.2.1.length : Int)))), (32, [], .v (.c (.p (.int .i64) (0 : Int))))], [(1, [], .box [.p (.int .i64) n.1, .p (.int .i64) n.2.1, .p (.sl (.pr (.int .i64) (.pr (.int .i64) (.int .i64)))) n.2.2.1, .p (.int .u32) n.2.2.2.1, .p (.int .u32) n.2.2.2.2])]⟩ : St)) (by kernel_rfl) ⟨trivial, trivial, trivial, trivial, trivial⟩ ?_
    refine awl_nil ?_
    refine thenQ_n ?_
    refine withJoin (σ := Unit) (fun s => (⟨87, [(1, [], .v (.c (.ptr 1 0)))], [(1, [], .box [.p (.int .i64) n.1, .p (.int .i64) n.2.1, .p (.sl (.pr (.int .i64) (.pr (.int .i64) (.int .i64)))) n.2.2.1, .p (.int .u32) n.2.2.2.1, .p (.int .u32) n.2.2.2.2])]⟩ : St)) (fun s => VC22_k1 n K) (fun s h => ?_) (fun rest1 => ?_)
    · have h : VC22_k1 n K := h
      unfold VC22_k1 at h
      refine thenQ_n ?_
      refine aw_seq ?_
      refine aw_seq ?_
      refine aw_region ?_
      obtain ⟨o1, o2, h⟩ := h
      refine awl_runp 16 [86] [] (ob := (True ∧ True ∧ True ∧ True ∧ True ∧ 0 ≤ (IntKind.wrap .u64 n.1) ∧ True ∧ True ∧ ((decide ((bShl .u32 (1 : Int) (IntKind.wrap .u64 n.1)) ≤ n.2.2.2.1)) = false → True) ∧ ((decide ((bShl .u32 (1 : Int) (IntKind.wrap .u64 n.1)) ≤ n.2.2.2.1)) = false → True) ∧ ((decide ((bShl .u32 (1 : Int) (IntKind.wrap .u64 n.1)) ≤ n.2.2.2.1)) = false → True) ∧ ((decide ((bShl .u32 (1 : Int) (IntKind.wrap .u64 n.1)) ≤ n.2.2.2.1)) = false → True) ∧ ((decide ((bShl .u32 (1 : Int) (IntKind.wrap .u64 n.1)) ≤ n.2.2.2.1)) = false → True) ∧ ((decide ((bShl .u32 (1 : Int) (IntKind.wrap .u64 n.1)) ≤ n.2.2.2.1)) = false → 0 ≤ (IntKind.wrap .u64 n.1)) ∧ ((decide ((bShl .u32 (1 : Int) (IntKind.wrap .u64 n.1)) ≤ n.2.2.2.1)) = false → True) ∧ True ∧ True)) (st' := (⟨87, [(86, [], .v (.c (.p .bool ((decide ((bShl .u32 (1 : Int) (IntKind.wrap .u64 n.1)) ≤ n.2.2.2.1)) || (decide ((bShl .u32 (1 : Int) (IntKind.wrap .u64 n.1)) ≤ n.2.2.2.2))))))], []⟩ : St)) (by kernel_rfl) ⟨trivial, trivial, trivial, trivial, trivial, o1, trivial, trivial, (fun _ => trivial), (fun _ => trivial), (fun _ => trivial), (fun _ => trivial), (fun _ => trivial), o2, (fun _ => trivial), trivial, trivial⟩ ?_
      refine awl_nil ?_
      refine thenQ_n ?_
      refine aw_cond (b := ((decide ((bShl .u32 (1 : Int) (IntKind.wrap .u64 n.1)) ≤ n.2.2.2.1)) || (decide ((bShl .u32 (1 : Int) (IntKind.wrap .u64 n.1)) ≤ n.2.2.2.2)))) (by kernel_rfl) (fun hb => ?_) (fun hb => ?_)
      · have h := h.1 hb
        refine aw_seq ?_
        refine aw_region ?_
        refine awl_runp 1 [2] [] (ob := (True ∧ True)) (st' := (⟨87, [(2, [], .v (.c (.p (.int .i64) (4 : Int))))], []⟩ : St)) (by kernel_rfl) ⟨trivial, trivial⟩ ?_
        refine awl_nil ?_
        refine thenQ_n ?_
        refine aw_ret ?_
        refine thenQ_r ?_
        exact retQ_r (σ := Int) (R := (fun y => [toV1 (.int .i64) y])) (ob := (True ∧ True)) (4 : Int) (by kernel_rfl) ⟨trivial, trivial⟩ h
      · have h := h.2 hb
        refine aw_skip ?_
        refine thenQ_n ?_
        refine aw_seq ?_
        refine aw_region ?_
        refine awl_runp 1 [2] [] (ob := (True ∧ True)) (st' := (⟨87, [(2, [], .v (.c (.p (.int .i64) (0 : Int))))], []⟩ : St)) (by kernel_rfl) ⟨trivial, trivial⟩ ?_
        refine awl_nil ?_
        refine thenQ_n ?_
        refine aw_ret ?_
        exact retQ_r (σ := Int) (R := (fun y => [toV1 (.int .i64) y])) (ob := (True ∧ True)) (0 : Int) (by kernel_rfl) ⟨trivial, trivial⟩ h
    · refine aw_block ?_
      refine aw_loop (σ := Int) (fun s => (⟨87, [(1, [], .v (.c (.ptr 1 0))), (30, [], .v (.c (.p (.sl (.pr (.int .i64) (.pr (.int .i64) (.int .i64)))) n.2.2.1))), (31, [], .v (.c (.p (.int .i64) (n.2.2.1.length : Int)))), (32, [], .v (.c (.p (.int .i64) s)))], [(1, [], .box [.p (.int .i64) n.1, .p (.int .i64) n.2.1, .p (.sl (.pr (.int .i64) (.pr (.int .i64) (.int .i64)))) n.2.2.1, .p (.int .u32) n.2.2.2.1, .p (.int .u32) n.2.2.2.2])]⟩ : St)) (fun s X => VC22_l1 n K s X) (s0 := (0 : Int)) (fun v32 X1 h => ?_) h
      have h : VC22_l1 n K v32 X1 := h
      unfold VC22_l1 at h
      refine aw_seq ?_
      refine aw_region ?_
      refine awl_runp 1 [1, 30, 31, 32, 33] [1] (ob := (True ∧ True)) (st' := (⟨87, [(1, [], .v (.c (.ptr 1 0))), (30, [], .v (.c (.p (.sl (.pr (.int .i64) (.pr (.int .i64) (.int .i64)))) n.2.2.1))), (31, [], .v (.c (.p (.int .i64) (n.2.2.1.length : Int)))), (32, [], .v (.c (.p (.int .i64) v32))), (33, [], .v (.c (.p .bool (decide (v32 < (n.2.2.1.length : Int))))))], [(1, [], .box [.p (.int .i64) n.1, .p (.int .i64) n.2.1, .p (.sl (.pr (.int .i64) (.pr (.int .i64) (.int .i64)))) n.2.2.1, .p (.int .u32) n.2.2.2.1, .p (.int .u32) n.2.2.2.2])]⟩ : St)) (by kernel_rfl) ⟨trivial, trivial⟩ ?_
      refine awl_nil ?_
      refine thenQ_n ?_
      refine aw_seq ?_
      refine aw_cond (b := (decide (v32 < (n.2.2.1.length : Int)))) (by kernel_rfl) (fun hb => ?_) (fun hb => ?_)
      · have h := h.1 hb
        refine aw_skip ?_
        refine thenQ_n ?_
        refine aw_seq ?_
        refine aw_block ?_
        refine aw_seq ?_
        refine aw_region ?_
        obtain ⟨o1, h⟩ := h
        refine awl_runp 4 [1, 4, 30, 31, 32] [1, 4] (ob := (inIdx v32 n.2.2.1.length ∧ True ∧ True ∧ True ∧ True)) (st' := (⟨87, [(1, [], .v (.c (.ptr 1 0))), (4, [], .v (.c (.ptr 4 0))), (30, [], .v (.c (.p (.sl (.pr (.int .i64) (.pr (.int .i64) (.int .i64)))) n.2.2.1))), (31, [], .v (.c (.p (.int .i64) (n.2.2.1.length : Int)))), (32, [], .v (.c (.p (.int .i64) v32)))], [(1, [], .box [.p (.int .i64) n.1, .p (.int .i64) n.2.1, .p (.sl (.pr (.int .i64) (.pr (.int .i64) (.int .i64)))) n.2.2.1, .p (.int .u32) n.2.2.2.1, .p (.int .u32) n.2.2.2.2]), (4, [], .box [.p (.int .i64) ((n.2.2.1.getD (v32).toNat ((0 : Int), ((0 : Int), (0 : Int)))).1), .p (.int .i64) ((n.2.2.1.getD (v32).toNat ((0 : Int), ((0 : Int), (0 : Int)))).2.1), .p (.int .i64) ((n.2.2.1.getD (v32).toNat ((0 : Int), ((0 : Int), (0 : Int)))).2.2)])]⟩ : St)) (by kernel_rfl) ⟨o1, trivial, trivial, trivial, trivial⟩ ?_
        refine awl_nil ?_
        refine thenQ_n ?_
        refine aw_seq ?_
        refine aw_region ?_
        refine awl_runp 34 [1, 30, 31, 32, 69] [1] (ob := (True ∧ True ∧ True ∧ True ∧ ((decide ((n.2.2.1.getD (v32).toNat ((0 : Int), ((0 : Int), (0 : Int)))).1 < (0 : Int))) = false → True) ∧ ((decide ((n.2.2.1.getD (v32).toNat ((0 : Int), ((0 : Int), (0 : Int)))).1 < (0 : Int))) = false → True) ∧ ((decide ((n.2.2.1.getD (v32).toNat ((0 : Int), ((0 : Int), (0 : Int)))).1 < (0 : Int))) = false → True) ∧ ((decide ((n.2.2.1.getD (v32).toNat ((0 : Int), ((0 : Int), (0 : Int)))).1 < (0 : Int))) = false → True) ∧ ((decide ((n.2.2.1.getD (v32).toNat ((0 : Int), ((0 : Int), (0 : Int)))).1 < (0 : Int))) = false → True) ∧ True ∧ True ∧ (((decide ((n.2.2.1.getD (v32).toNat ((0 : Int), ((0 : Int), (0 : Int)))).1 < (0 : Int))) || (decide (n.1 ≤ (n.2.2.1.getD (v32).toNat ((0 : Int), ((0 : Int), (0 : Int)))).1))) = false → True) ∧ (((decide ((n.2.2.1.getD (v32).toNat ((0 : Int), ((0 : Int), (0 : Int)))).1 < (0 : Int))) || (decide (n.1 ≤ (n.2.2.1.getD (v32).toNat ((0 : Int), ((0 : Int), (0 : Int)))).1))) = false → True) ∧ (((decide ((n.2.2.1.getD (v32).toNat ((0 : Int), ((0 : Int), (0 : Int)))).1 < (0 : Int))) || (decide (n.1 ≤ (n.2.2.1.getD (v32).toNat ((0 : Int), ((0 : Int), (0 : Int)))).1))) = false → True) ∧ True ∧ True ∧ ((((decide ((n.2.2.1.getD (v32).toNat ((0 : Int), ((0 : Int), (0 : Int)))).1 < (0 : Int))) || (decide (n.1 ≤ (n.2.2.1.getD (v32).toNat ((0 : Int), ((0 : Int), (0 : Int)))).1))) || (decide ((n.2.2.1.getD (v32).toNat ((0 : Int), ((0 : Int), (0 : Int)))).2.2 < (0 : Int)))) = false → True) ∧ ((((decide ((n.2.2.1.getD (v32).toNat ((0 : Int), ((0 : Int), (0 : Int)))).1 < (0 : Int))) || (decide (n.1 ≤ (n.2.2.1.getD (v32).toNat ((0 : Int), ((0 : Int), (0 : Int)))).1))) || (decide ((n.2.2.1.getD (v32).toNat ((0 : Int), ((0 : Int), (0 : Int)))).2.2 < (0 : Int)))) = false → True) ∧ ((((decide ((n.2.2.1.getD (v32).toNat ((0 : Int), ((0 : Int), (0 : Int)))).1 < (0 : Int))) || (decide (n.1 ≤ (n.2.2.1.getD (v32).toNat ((0 : Int), ((0 : Int), (0 : Int)))).1))) || (decide ((n.2.2.1.getD (v32).toNat ((0 : Int), ((0 : Int), (0 : Int)))).2.2 < (0 : Int)))) = false → True) ∧ ((((decide ((n.2.2.1.getD (v32).toNat ((0 : Int), ((0 : Int), (0 : Int)))).1 < (0 : Int))) || (decide (n.1 ≤ (n.2.2.1.getD (v32).toNat ((0 : Int), ((0 : Int), (0 : Int)))).1))) || (decide ((n.2.2.1.getD (v32).toNat ((0 : Int), ((0 : Int), (0 : Int)))).2.2 < (0 : Int)))) = false → True) ∧ ((((decide ((n.2.2.1.getD (v32).toNat ((0 : Int), ((0 : Int), (0 : Int)))).1 < (0 : Int))) || (decide (n.1 ≤ (n.2.2.1.getD (v32).toNat ((0 : Int), ((0 : Int), (0 : Int)))).1))) || (decide ((n.2.2.1.getD (v32).toNat ((0 : Int), ((0 : Int), (0 : Int)))).2.2 < (0 : Int)))) = false → True) ∧ True ∧ True ∧ (((((decide ((n.2.2.1.getD (v32).toNat ((0 : Int), ((0 : Int), (0 : Int)))).1 < (0 : Int))) || (decide (n.1 ≤ (n.2.2.1.getD (v32).toNat ((0 : Int), ((0 : Int), (0 : Int)))).1))) || (decide ((n.2.2.1.getD (v32).toNat ((0 : Int), ((0 : Int), (0 : Int)))).2.2 < (0 : Int)))) || (decide (n.1 ≤ (n.2.2.1.getD (v32).toNat ((0 : Int), ((0 : Int), (0 : Int)))).2.2))) = false → True) ∧ (((((decide ((n.2.2.1.getD (v32).toNat ((0 : Int), ((0 : Int), (0 : Int)))).1 < (0 : Int))) || (decide (n.1 ≤ (n.2.2.1.getD (v32).toNat ((0 : Int), ((0 : Int), (0 : Int)))).1))) || (decide ((n.2.2.1.getD (v32).toNat ((0 : Int), ((0 : Int), (0 : Int)))).2.2 < (0 : Int)))) || (decide (n.1 ≤ (n.2.2.1.getD (v32).toNat ((0 : Int), ((0 : Int), (0 : Int)))).2.2))) = false → True) ∧ (((((decide ((n.2.2.1.getD (v32).toNat ((0 : Int), ((0 : Int), (0 : Int)))).1 < (0 : Int))) || (decide (n.1 ≤ (n.2.2.1.getD (v32).toNat ((0 : Int), ((0 : Int), (0 : Int)))).1))) || (decide ((n.2.2.1.getD (v32).toNat ((0 : Int), ((0 : Int), (0 : Int)))).2.2 < (0 : Int)))) || (decide (n.1 ≤ (n.2.2.1.getD (v32).toNat ((0 : Int), ((0 : Int), (0 : Int)))).2.2))) = false → True) ∧ True ∧ True ∧ ((((((decide ((n.2.2.1.getD (v32).toNat ((0 : Int), ((0 : Int), (0 : Int)))).1 < (0 : Int))) || (decide (n.1 ≤ (n.2.2.1.getD (v32).toNat ((0 : Int), ((0 : Int), (0 : Int)))).1))) || (decide ((n.2.2.1.getD (v32).toNat ((0 : Int), ((0 : Int), (0 : Int)))).2.2 < (0 : Int)))) || (decide (n.1 ≤ (n.2.2.1.getD (v32).toNat ((0 : Int), ((0 : Int), (0 : Int)))).2.2))) || (decide ((n.2.2.1.getD (v32).toNat ((0 : Int), ((0 : Int), (0 : Int)))).2.1 < (-1 : Int)))) = false → True) ∧ ((((((decide ((n.2.2.1.getD (v32).toNat ((0 : Int), ((0 : Int), (0 : Int)))).1 < (0 : Int))) || (decide (n.1 ≤ (n.2.2.1.getD (v32).toNat ((0 : Int), ((0 : Int), (0 : Int)))).1))) || (decide ((n.2.2.1.getD (v32).toNat ((0 : Int), ((0 : Int), (0 : Int)))).2.2 < (0 : Int)))) || (decide (n.1 ≤ (n.2.2.1.getD (v32).toNat ((0 : Int), ((0 : Int), (0 : Int)))).2.2))) || (decide ((n.2.2.1.getD (v32).toNat ((0 : Int), ((0 : Int), (0 : Int)))).2.1 < (-1 : Int)))) = false → True) ∧ ((((((decide ((n.2.2.1.getD (v32).toNat ((0 : Int), ((0 : Int), (0 : Int)))).1 < (0 : Int))) || (decide (n.1 ≤ (n.2.2.1.getD (v32).toNat ((0 : Int), ((0 : Int), (0 : Int)))).1))) || (decide ((n.2.2.1.getD (v32).toNat ((0 : Int), ((0 : Int), (0 : Int)))).2.2 < (0 : Int)))) || (decide (n.1 ≤ (n.2.2.1.getD (v32).toNat ((0 : Int), ((0 : Int), (0 : Int)))).2.2))) || (decide ((n.2.2.1.getD (v32).toNat ((0 : Int), ((0 : Int), (0 : Int)))).2.1 < (-1 : Int)))) = false → True) ∧ ((((((decide ((n.2.2.1.getD (v32).toNat ((0 : Int), ((0 : Int), (0 : Int)))).1 < (0 : Int))) || (decide (n.1 ≤ (n.2.2.1.getD (v32).toNat ((0 : Int), ((0 : Int), (0 : Int)))).1))) || (decide ((n.2.2.1.getD (v32).toNat ((0 : Int), ((0 : Int), (0 : Int)))).2.2 < (0 : Int)))) || (decide (n.1 ≤ (n.2.2.1.getD (v32).toNat ((0 : Int), ((0 : Int), (0 : Int)))).2.2))) || (decide ((n.2.2.1.getD (v32).toNat ((0 : Int), ((0 : Int), (0 : Int)))).2.1 < (-1 : Int)))) = false → True) ∧ ((((((decide ((n.2.2.1.getD (v32).toNat ((0 : Int), ((0 : Int), (0 : Int)))).1 < (0 : Int))) || (decide (n.1 ≤ (n.2.2.1.getD (v32).toNat ((0 : Int), ((0 : Int), (0 : Int)))).1))) || (decide ((n.2.2.1.getD (v32).toNat ((0 : Int), ((0 : Int), (0 : Int)))).2.2 < (0 : Int)))) || (decide (n.1 ≤ (n.2.2.1.getD (v32).toNat ((0 : Int), ((0 : Int), (0 : Int)))).2.2))) || (decide ((n.2.2.1.getD (v32).toNat ((0 : Int), ((0 : Int), (0 : Int)))).2.1 < (-1 : Int)))) = false → True) ∧ True ∧ True)) (st' := (⟨87, [(1, [], .v (.c (.ptr 1 0))), (30, [], .v (.c (.p (.sl (.pr (.int .i64) (.pr (.int .i64) (.int .i64)))) n.2.2.1))), (31, [], .v (.c (.p (.int .i64) (n.2.2.1.length : Int)))), (32, [], .v (.c (.p (.int .i64) v32))), (69, [], .v (.c (.p .bool ((((((decide ((n.2.2.1.getD (v32).toNat ((0 : Int), ((0 : Int), (0 : Int)))).1 < (0 : Int))) || (decide (n.1 ≤ (n.2.2.1.getD (v32).toNat ((0 : Int), ((0 : Int), (0 : Int)))).1))) || (decide ((n.2.2.1.getD (v32).toNat ((0 : Int), ((0 : Int), (0 : Int)))).2.2 < (0 : Int)))) || (decide (n.1 ≤ (n.2.2.1.getD (v32).toNat ((0 : Int), ((0 : Int), (0 : Int)))).2.2))) || (decide ((n.2.2.1.getD (v32).toNat ((0 : Int), ((0 : Int), (0 : Int)))).2.1 < (-1 : Int)))) || (decide (n.2.1 ≤ (n.2.2.1.getD (v32).toNat ((0 : Int), ((0 : Int), (0 : Int)))).2.1))))))], [(1, [], .box [.p (.int .i64) n.1, .p (.int .i64) n.2.1, .p (.sl (.pr (.int .i64) (.pr (.int .i64) (.int .i64)))) n.2.2.1, .p (.int .u32) n.2.2.2.1, .p (.int .u32) n.2.2.2.2])]⟩ : St)) (by kernel_rfl) ⟨trivial, trivial, trivial, trivial, (fun _ => trivial), (fun _ => trivial), (fun _ => trivial), (fun _ => trivial), (fun _ => trivial), trivial, trivial, (fun _ => trivial), (fun _ => trivial), (fun _ => trivial), trivial, trivial, (fun _ => trivial), (fun _ => trivial), (fun _ => trivial), (fun _ => trivial), (fun _ => trivial), trivial, trivial, (fun _ => trivial), (fun _ => trivial), (fun _ => trivial), trivial, trivial, (fun _ => trivial), (fun _ => trivial), (fun _ => trivial), (fun _ => trivial), (fun _ => trivial), trivial, trivial⟩ ?_
        refine awl_nil ?_
        refine thenQ_n ?_
        refine aw_cond (b := ((((((decide ((n.2.2.1.getD (v32).toNat ((0 : Int), ((0 : Int), (0 : Int)))).1 < (0 : Int))) || (decide (n.1 ≤ (n.2.2.1.getD (v32).toNat ((0 : Int), ((0 : Int), (0 : Int)))).1))) || (decide ((n.2.2.1.getD (v32).toNat ((0 : Int), ((0 : Int), (0 : Int)))).2.2 < (0 : Int)))) || (decide (n.1 ≤ (n.2.2.1.getD (v32).toNat ((0 : Int), ((0 : Int), (0 : Int)))).2.2))) || (decide ((n.2.2.1.getD (v32).toNat ((0 : Int), ((0 : Int), (0 : Int)))).2.1 < (-1 : Int)))) || (decide (n.2.1 ≤ (n.2.2.1.getD (v32).toNat ((0 : Int), ((0 : Int), (0 : Int)))).2.1)))) (by kernel_rfl) (fun hb => ?_) (fun hb => ?_)
        · have h := h.1 hb
          refine aw_seq ?_
          refine aw_region ?_
          refine awl_runp 1 [2] [] (ob := (True ∧ True)) (st' := (⟨87, [(2, [], .v (.c (.p (.int .i64) (2 : Int))))], []⟩ : St)) (by kernel_rfl) ⟨trivial, trivial⟩ ?_
          refine awl_nil ?_
          refine thenQ_n ?_
          refine aw_ret ?_
          refine blockQ_r ?_
          refine thenQ_r ?_
          refine thenQ_r ?_
          refine blockQ_r ?_
          refine thenQ_r ?_
          exact retQ_r (σ := Int) (R := (fun y => [toV1 (.int .i64) y])) (ob := (True ∧ True)) (2 : Int) (by kernel_rfl) ⟨trivial, trivial⟩ h
        · have h := h.2 hb
          refine aw_skip ?_
          refine blockQ_n ?_
          refine thenQ_n ?_
          refine aw_region ?_
          obtain ⟨o1, h⟩ := h
          refine awl_runp 2 [1, 30, 31, 32] [1] (ob := (InR (v32 + (1 : Int)) ∧ True ∧ True)) (st' := (⟨87, [(1, [], .v (.c (.ptr 1 0))), (30, [], .v (.c (.p (.sl (.pr (.int .i64) (.pr (.int .i64) (.int .i64)))) n.2.2.1))), (31, [], .v (.c (.p (.int .i64) (n.2.2.1.length : Int)))), (32, [], .v (.c (.p (.int .i64) (v32 + (1 : Int)))))], [(1, [], .box [.p (.int .i64) n.1, .p (.int .i64) n.2.1, .p (.sl (.pr (.int .i64) (.pr (.int .i64) (.int .i64)))) n.2.2.1, .p (.int .u32) n.2.2.2.1, .p (.int .u32) n.2.2.2.2])]⟩ : St)) (by kernel_rfl) ⟨o1, trivial, trivial⟩ ?_
          refine awl_nil ?_
          exact thenQ_n ⟨(v32 + (1 : Int)), rfl, h⟩
      · have h := h.2 hb
        refine aw_conv [.prune [1] [1]] (st' := (⟨87, [(1, [], .v (.c (.ptr 1 0)))], [(1, [], .box [.p (.int .i64) n.1, .p (.int .i64) n.2.1, .p (.sl (.pr (.int .i64) (.pr (.int .i64) (.int .i64)))) n.2.2.1, .p (.int .u32) n.2.2.2.1, .p (.int .u32) n.2.2.2.2])]⟩ : St)) (by kernel_rfl) ?_
        refine aw_exit ?_
        refine thenQ_x ?_
        refine thenQ_x ?_
        refine blockQ_hit ?_
        exact rest1 () h

-- coppicer/coppicerref.WordCheck
def VC17_k1 (K : Int → Prop) : Prop :=
  K (0 : Int)

def VC17_l1 (k : Int) (w : (List Int)) (K : Int → Prop) (v12 : Int) (X1 : Int → Prop) : Prop :=
  (((decide (v12 < (w.length : Int))) = true → (inIdx v12 w.length ∧ ((((decide ((w.getD (v12).toNat (0 : Int)) < (0 : Int))) || (decide (k ≤ (w.getD (v12).toNat (0 : Int))))) = true → K (2 : Int)) ∧ (((decide ((w.getD (v12).toNat (0 : Int)) < (0 : Int))) || (decide (k ≤ (w.getD (v12).toNat (0 : Int))))) = false → (InR (v12 + (1 : Int)) ∧ X1 (v12 + (1 : Int))))))) ∧ ((decide (v12 < (w.length : Int))) = false → VC17_k1 K))

def VC17 (k : Int) (w : (List Int)) (K : Int → Prop) : Prop :=
  (((decide ((12 : Int) < (w.length : Int))) = true → K (1 : Int)) ∧ ((decide ((12 : Int) < (w.length : Int))) = false → Loop (σ := Int) (fun s X => VC17_l1 k w K s X) (0 : Int)))

set_option maxHeartbeats 4000000 in
theorem link17 (k : Int) (w : (List Int)) (K : Int → Prop) (h : VC17 k w K) : ACalls Try.prog 17 [toV1 (.int .i64) k, toV1 (.sl (.int .i64)) w] (fun res => ∃ y, res = (fun y => [toV1 (.int .i64) y]) y ∧ K y) := by
  refine acalls_of_aw [(.int .i64)] [.t 4] Try.func17 rfl rfl rfl ?_
  unfold VC17 at h
  refine aw_seq ?_
  refine aw_region ?_
  refine awl_runp 1 [0, 1] [] (ob := (True ∧ True)) (st' := (⟨24, [(0, [], .v (.c (.p (.int .i64) k))), (1, [], .v (.c (.p (.sl (.int .i64)) w)))], []⟩ : St)) (by kernel_rfl) ⟨trivial, trivial⟩ ?_
  refine awl_nil ?_
  refine thenQ_n ?_
  refine aw_seq ?_
  refine aw_seq ?_
  refine aw_region ?_
  refine awl_runp 3 [0, 1, 9] [] (ob := (True ∧ True ∧ True ∧ True)) (st' := (⟨24, [(0, [], .v (.c (.p (.int .i64) k))), (1, [], .v (.c (.p (.sl (.int .i64)) w))), (9, [], .v (.c (.p .bool (decide ((12 : Int) < (w.length : Int))))))], []⟩ : St)) (by kernel_rfl) ⟨trivial, trivial, trivial, trivial⟩ ?_
  refine awl_nil ?_
  refine thenQ_n ?_
  refine aw_cond (b := (decide ((12 : Int) < (w.length : Int)))) (by kernel_rfl) (fun hb => ?_) (fun hb => ?_)
  · have h := h.1 hb
    refine aw_seq ?_
    refine aw_region ?_
    refine awl_runp 1 [4] [] (ob := (True ∧ True)) (st' := (⟨24, [(4, [], .v (.c (.p (.int .i64) (1 : Int))))], []⟩ : St)) (by kernel_rfl) ⟨trivial, trivial⟩ ?_
    refine awl_nil ?_
    refine thenQ_n ?_
    refine aw_ret ?_
    refine thenQ_r ?_
    exact retQ_r (σ := Int) (R := (fun y => [toV1 (.int .i64) y])) (ob := (True ∧ True)) (1 : Int) (by kernel_rfl) ⟨trivial, trivial⟩ h
  · have h := h.2 hb
    refine aw_skip ?_
    refine thenQ_n ?_
    refine aw_seq ?_
    refine aw_seq ?_
    refine aw_region ?_
    refine awl_runp 3 [0, 10, 11, 12] [] (ob := (True ∧ True ∧ True ∧ True)) (st' := (⟨24, [(0, [], .v (.c (.p (.int .i64) k))), (10, [], .v (.c (.p (.sl (.int .i64)) w))), (11, [], .v (.c (.p (.int .i64) (w.length : Int)))), (12, [], .v (.c (.p (.int .i64) (0 : Int))))], []⟩ : St)) (by kernel_rfl) ⟨trivial, trivial, trivial, trivial⟩ ?_
    refine awl_nil ?_
    refine thenQ_n ?_
    refine withJoin (σ := Unit) (fun s => (⟨24, [], []⟩ : St)) (fun s => VC17_k1 K) (fun s h => ?_) (fun rest1 => ?_)
    · have h : VC17_k1 K := h
      unfold VC17_k1 at h
      refine thenQ_n ?_
      refine aw_seq ?_
      refine aw_region ?_
      refine awl_runp 1 [4] [] (ob := (True ∧ True)) (st' := (⟨24, [(4, [], .v (.c (.p (.int .i64) (0 : Int))))], []⟩ : St)) (by kernel_rfl) ⟨trivial, trivial⟩ ?_
      refine awl_nil ?_
      refine thenQ_n ?_
      refine aw_ret ?_
      exact retQ_r (σ := Int) (R := (fun y => [toV1 (.int .i64) y])) (ob := (True ∧ True)) (0 : Int) (by kernel_rfl) ⟨trivial, trivial⟩ h
    · refine aw_block ?_
      refine aw_loop (σ := Int) (fun s => (⟨24, [(0, [], .v (.c (.p (.int .i64) k))), (10, [], .v (.c (.p (.sl (.int .i64)) w))), (11, [], .v (.c (.p (.int .i64) (w.length : Int)))), (12, [], .v (.c (.p (.int .i64) s)))], []⟩ : St)) (fun s X => VC17_l1 k w K s X) (s0 := (0 : Int)) (fun v12 X1 h => ?_) h
      have h : VC17_l1 k w K v12 X1 := h
      unfold VC17_l1 at h
      refine aw_seq ?_
      refine aw_region ?_
      refine awl_runp 1 [0, 10, 11, 12, 13] [] (ob := (True ∧ True)) (st' := (⟨24, [(0, [], .v (.c (.p (.int .i64) k))), (10, [], .v (.c (.p (.sl (.int .i64)) w))), (11, [], .v (.c (.p (.int .i64) (w.length : Int)))), (12, [], .v (.c (.p (.int .i64) v12))), (13, [], .v (.c (.p .bool (decide (v12 < (w.length : Int))))))], []⟩ : St)) (by kernel_rfl) ⟨trivial, trivial⟩ ?_
      refine awl_nil ?_
      refine thenQ_n ?_
      refine aw_seq ?_
      refine aw_cond (b := (decide (v12 < (w.length : Int)))) (by kernel_rfl) (fun hb => ?_) (fun hb => ?_)
      · have h := h.1 hb
        refine aw_skip ?_
        refine thenQ_n ?_
        refine aw_seq ?_
        refine aw_block ?_
        refine aw_seq ?_
        refine aw_region ?_
        obtain ⟨o1, h⟩ := h
        refine awl_runp 3 [0, 6, 10, 11, 12] [] (ob := (inIdx v12 w.length ∧ True ∧ True ∧ True)) (st' := (⟨24, [(0, [], .v (.c (.p (.int .i64) k))), (6, [], .v (.c (.p (.int .i64) (w.getD (v12).toNat (0 : Int))))), (10, [], .v (.c (.p (.sl (.int .i64)) w))), (11, [], .v (.c (.p (.int .i64) (w.length : Int)))), (12, [], .v (.c (.p (.int .i64) v12)))], []⟩ : St)) (by kernel_rfl) ⟨o1, trivial, trivial, trivial⟩ ?_
        refine awl_nil ?_
        refine thenQ_n ?_
        refine aw_seq ?_
        refine aw_region ?_
        refine awl_runp 7 [0, 10, 11, 12, 22] [] (ob := (True ∧ True ∧ True ∧ ((decide ((w.getD (v12).toNat (0 : Int)) < (0 : Int))) = false → True) ∧ ((decide ((w.getD (v12).toNat (0 : Int)) < (0 : Int))) = false → True) ∧ ((decide ((w.getD (v12).toNat (0 : Int)) < (0 : Int))) = false → True) ∧ True ∧ True)) (st' := (⟨24, [(0, [], .v (.c (.p (.int .i64) k))), (10, [], .v (.c (.p (.sl (.int .i64)) w))), (11, [], .v (.c (.p (.int .i64) (w.length : Int)))), (12, [], .v (.c (.p (.int .i64) v12))), (22, [], .v (.c (.p .bool ((decide ((w.getD (v12).toNat (0 : Int)) < (0 : Int))) || (decide (k ≤ (w.getD (v12).toNat (0 : Int))))))))], []⟩ : St)) (by kernel_rfl) ⟨trivial, trivial, trivial, (fun _ => trivial), (fun _ => trivial), (fun _ => trivial), trivial, trivial⟩ ?_
        refine awl_nil ?_
        refine thenQ_n ?_
        refine aw_cond (b := ((decide ((w.getD (v12).toNat (0 : Int)) < (0 : Int))) || (decide (k ≤ (w.getD (v12).toNat (0 : Int)))))) (by kernel_rfl) (fun hb => ?_) (fun hb => ?_)
        · have h := h.1 hb
          refine aw_seq ?_
          refine aw_region ?_
          refine awl_runp 1 [4] [] (ob := (True ∧ True)) (st' := (⟨24, [(4, [], .v (.c (.p (.int .i64) (2 : Int))))], []⟩ : St)) (by kernel_rfl) ⟨trivial, trivial⟩ ?_
          refine awl_nil ?_
          refine thenQ_n ?_
          refine aw_ret ?_
          refine blockQ_r ?_
          refine thenQ_r ?_
          refine thenQ_r ?_
          refine blockQ_r ?_
          refine thenQ_r ?_
          exact retQ_r (σ := Int) (R := (fun y => [toV1 (.int .i64) y])) (ob := (True ∧ True)) (2 : Int) (by kernel_rfl) ⟨trivial, trivial⟩ h
        · have h := h.2 hb
          refine aw_skip ?_
          refine blockQ_n ?_
          refine thenQ_n ?_
          refine aw_region ?_
          obtain ⟨o1, h⟩ := h
          refine awl_runp 2 [0, 10, 11, 12] [] (ob := (InR (v12 + (1 : Int)) ∧ True ∧ True)) (st' := (⟨24, [(0, [], .v (.c (.p (.int .i64) k))), (10, [], .v (.c (.p (.sl (.int .i64)) w))), (11, [], .v (.c (.p (.int .i64) (w.length : Int)))), (12, [], .v (.c (.p (.int .i64) (v12 + (1 : Int)))))], []⟩ : St)) (by kernel_rfl) ⟨o1, trivial, trivial⟩ ?_
          refine awl_nil ?_
          exact thenQ_n ⟨(v12 + (1 : Int)), rfl, h⟩
      · have h := h.2 hb
        refine aw_conv [.prune [] []] (st' := (⟨24, [], []⟩ : St)) (by kernel_rfl) ?_
        refine aw_exit ?_
        refine thenQ_x ?_
        refine thenQ_x ?_
        refine blockQ_hit ?_
        exact rest1 () h

-- coppicer/coppicerkeep.netted
def VC21 (n : (Int × (Int × ((List (Int × (Int × Int))) × (Int × Int))))) (w : (List Int)) (K : Bool → Prop) : Prop :=
  VC22 n (fun (ret6v : Int) => gcall (α := Int) (decide (ret6v = (0 : Int))) (VC17 n.2.1 w) (0 : Int) (fun (ret12v : Int) => K ((decide (ret6v = (0 : Int))) && (decide (ret12v = (0 : Int))))))

set_option maxHeartbeats 4000000 in
theorem link21 (n : (Int × (Int × ((List (Int × (Int × Int))) × (Int × Int))))) (w : (List Int)) (K : Bool → Prop) (h : VC21 n w K) : ACalls Try.prog 21 [toV1 (.pr (.int .i64) (.pr (.int .i64) (.pr (.sl (.pr (.int .i64) (.pr (.int .i64) (.int .i64)))) (.pr (.int .u32) (.int .u32))))) n, toV1 (.sl (.int .i64)) w] (fun res => ∃ y, res = (fun y => [toV1 .bool y]) y ∧ K y) := by
  refine acalls_of_aw [.bool] [.t 4] Try.func21 rfl rfl rfl ?_
  unfold VC21 at h
  refine aw_seq ?_
  refine aw_region ?_
  refine awl_runp 2 [1, 2] [2] (ob := (True ∧ True ∧ True)) (st' := (⟨15, [(1, [], .v (.c (.p (.sl (.int .i64)) w))), (2, [], .v (.c (.ptr 2 0)))], [(2, [], .box [.p (.int .i64) n.1, .p (.int .i64) n.2.1, .p (.sl (.pr (.int .i64) (.pr (.int .i64) (.int .i64)))) n.2.2.1, .p (.int .u32) n.2.2.2.1, .p (.int .u32) n.2.2.2.2])]⟩ : St)) (by kernel_rfl) ⟨trivial, trivial, trivial⟩ ?_
  refine awl_nil ?_
  refine thenQ_n ?_
  refine aw_seq ?_
  refine aw_region ?_
  refine awl_runp 1 [1, 2, 5] [2] (ob := (True ∧ True)) (st' := (⟨15, [(1, [], .v (.c (.p (.sl (.int .i64)) w))), (2, [], .v (.c (.ptr 2 0))), (5, [], .v (.agg [.p (.int .i64) n.1, .p (.int .i64) n.2.1, .p (.sl (.pr (.int .i64) (.pr (.int .i64) (.int .i64)))) n.2.2.1, .p (.int .u32) n.2.2.2.1, .p (.int .u32) n.2.2.2.2]))], [(2, [], .box [.p (.int .i64) n.1, .p (.int .i64) n.2.1, .p (.sl (.pr (.int .i64) (.pr (.int .i64) (.int .i64)))) n.2.2.1, .p (.int .u32) n.2.2.2.1, .p (.int .u32) n.2.2.2.2])]⟩ : St)) (by kernel_rfl) ⟨trivial, trivial⟩ ?_
  refine awl_callk (p := []) (l := [toV1 (.pr (.int .i64) (.pr (.int .i64) (.pr (.sl (.pr (.int .i64) (.pr (.int .i64) (.int .i64)))) (.pr (.int .u32) (.int .u32))))) n]) (cl := []) false [.d (.pr (.int .i64) (.pr (.int .i64) (.pr (.sl (.pr (.int .i64) (.pr (.int .i64) (.int .i64)))) (.pr (.int .u32) (.int .u32)))))] [1, 2, 6] [2] (fun (ret6v : Int) => gcall (α := Int) (decide (ret6v = (0 : Int))) (VC17 n.2.1 w) (0 : Int) (fun (ret12v : Int) => K ((decide (ret6v = (0 : Int))) && (decide (ret12v = (0 : Int)))))) (fun ret6v => [toV1 (.int .i64) ret6v]) (fun ret6v => (⟨15, [(1, [], .v (.c (.p (.sl (.int .i64)) w))), (2, [], .v (.c (.ptr 2 0))), (6, [], .v (.c (.p (.int .i64) ret6v)))], [(2, [], .box [.p (.int .i64) n.1, .p (.int .i64) n.2.1, .p (.sl (.pr (.int .i64) (.pr (.int .i64) (.int .i64)))) n.2.2.1, .p (.int .u32) n.2.2.2.1, .p (.int .u32) n.2.2.2.2])]⟩ : St)) (by kernel_rfl) rfl (by kernel_rfl) rfl (by kernel_rfl) Try.call22 (by kernel_rfl) (fun ret6v => by kernel_rfl) (fun e => by cases e) (fun hg => link22 n _ h) (fun hg => noF hg) (fun ret6v h => ?_)
  have h : gcall (α := Int) (decide (ret6v = (0 : Int))) (VC17 n.2.1 w) (0 : Int) (fun (ret12v : Int) => K ((decide (ret6v = (0 : Int))) && (decide (ret12v = (0 : Int))))) := h
  refine awl_runp 5 [8, 10, 11] [] (ob := (True ∧ True ∧ ((decide (ret6v = (0 : Int))) = true → True) ∧ ((decide (ret6v = (0 : Int))) = true → True) ∧ ((decide (ret6v = (0 : Int))) = true → True) ∧ True)) (st' := (⟨15, [(8, [], .v (.c (.p .bool (decide (ret6v = (0 : Int)))))), (10, [(8, true)], .v (.c (.p (.int .i64) n.2.1))), (11, [(8, true)], .v (.c (.p (.sl (.int .i64)) w)))], []⟩ : St)) (by kernel_rfl) ⟨trivial, trivial, (fun _ => trivial), (fun _ => trivial), (fun _ => trivial), trivial⟩ ?_
  refine awl_callk (p := [(8, true)]) (l := [toV1 (.int .i64) n.2.1, toV1 (.sl (.int .i64)) w]) (cl := []) false [.d (.int .i64), .d (.sl (.int .i64))] [8, 12] [] (fun (ret12v : Int) => K ((decide (ret6v = (0 : Int))) && (decide (ret12v = (0 : Int))))) (fun ret12v => [toV1 (.int .i64) ret12v]) (fun ret12v => (⟨15, [(8, [], .v (.c (.p .bool (decide (ret6v = (0 : Int)))))), (12, [(8, true)], .v (.c (.p (.int .i64) ret12v)))], []⟩ : St)) (by kernel_rfl) rfl (by kernel_rfl) rfl (by kernel_rfl) Try.call17 (by kernel_rfl) (fun ret12v => by kernel_rfl) (fun e => by cases e) (fun hg => link17 n.2.1 w _ (by have := gcall_T h (show (decide (ret6v = (0 : Int))) = true from hg); exact this)) (fun hg => ⟨(0 : Int), by have := gcall_F h (show (decide (ret6v = (0 : Int))) = false from hg); exact this⟩) (fun ret12v h => ?_)
  have h : K ((decide (ret6v = (0 : Int))) && (decide (ret12v = (0 : Int)))) := h
  refine awl_runp 3 [4] [] (ob := (((decide (ret6v = (0 : Int))) = true → True) ∧ True ∧ True ∧ True)) (st' := (⟨15, [(4, [], .v (.c (.p .bool ((decide (ret6v = (0 : Int))) && (decide (ret12v = (0 : Int)))))))], []⟩ : St)) (by kernel_rfl) ⟨(fun _ => trivial), trivial, trivial, trivial⟩ ?_
  refine awl_nil ?_
  refine thenQ_n ?_
  refine aw_ret ?_
  exact retQ_r (σ := Bool) (R := (fun y => [toV1 .bool y])) (ob := (True ∧ True)) ((decide (ret6v = (0 : Int))) && (decide (ret12v = (0 : Int)))) (by kernel_rfl) ⟨trivial, trivial⟩ h

-- coppicer/machine.Check$1
def VC63 (l : (List Int)) (a1 : (Int × (Int × ((List (List Int)) × (Int × Int))))) (K : Bool → Prop) : Prop :=
  K (!decide ((l.length : Int) = a1.2.1))

set_option maxHeartbeats 4000000 in
theorem link63 (l : (List Int)) (a1 : (Int × (Int × ((List (List Int)) × (Int × Int))))) (K : Bool → Prop) (h : VC63 l a1 K) : ACalls Try.prog 63 [toV1 (.sl (.int .i64)) l, .c (.ad (.pr (.int .i64) (.pr (.int .i64) (.pr (.sl (.sl (.int .i64))) (.pr (.int .i64) (.int .u32))))) a1)] (fun res => ∃ y, res = (fun y => [toV1 .bool y]) y ∧ K y) := by
  refine acalls_of_aw [.bool] [.t 3] Try.func63 rfl rfl rfl ?_
  unfold VC63 at h
  refine aw_seq ?_
  refine aw_region ?_
  refine awl_runp 1 [0, 1] [] (ob := (True ∧ True)) (st' := (⟨9, [(0, [], .v (.c (.p (.sl (.int .i64)) l))), (1, [], .v (.c (.ad (.pr (.int .i64) (.pr (.int .i64) (.pr (.sl (.sl (.int .i64))) (.pr (.int .i64) (.int .u32))))) a1)))], []⟩ : St)) (by kernel_rfl) ⟨trivial, trivial⟩ ?_
  refine awl_nil ?_
  refine thenQ_n ?_
  refine aw_seq ?_
  refine aw_region ?_
  refine awl_runp 6 [3] [] (ob := (True ∧ True ∧ True ∧ True ∧ True ∧ True ∧ True)) (st' := (⟨9, [(3, [], .v (.c (.p .bool (!decide ((l.length : Int) = a1.2.1)))))], []⟩ : St)) (by kernel_rfl) ⟨trivial, trivial, trivial, trivial, trivial, trivial, trivial⟩ ?_
  refine awl_nil ?_
  refine thenQ_n ?_
  refine aw_ret ?_
  exact retQ_r (σ := Bool) (R := (fun y => [toV1 .bool y])) (ob := (True ∧ True)) (!decide ((l.length : Int) = a1.2.1)) (by kernel_rfl) ⟨trivial, trivial⟩ h

-- slices.IndexFunc[[][]int,[]int]
def VC72_k1 (K : Int → Prop) : Prop :=
  K (-1 : Int)

def VC72_l1 (sv : (List (List Int))) (F1 : (List Int) → (Bool → Prop) → Prop) (K : Int → Prop) (v8 : Int) (X1 : Int → Prop) : Prop :=
  (((decide (v8 < (sv.length : Int))) = true → (inIdx v8 sv.length ∧ F1 (sv.getD (v8).toNat ([] : (List Int))) (fun (ret16v : Bool) => ((ret16v = true → K v8) ∧ (ret16v = false → (InR (v8 + (1 : Int)) ∧ X1 (v8 + (1 : Int)))))))) ∧ ((decide (v8 < (sv.length : Int))) = false → VC72_k1 K))

def VC72 (sv : (List (List Int))) (F1 : (List Int) → (Bool → Prop) → Prop) (K : Int → Prop) : Prop :=
  Loop (σ := Int) (fun s X => VC72_l1 sv F1 K s X) (0 : Int)

set_option maxHeartbeats 4000000 in
theorem link72 (sv : (List (List Int))) (fv1 : FuncId) (cv1 : List Dat) (F1 : (List Int) → (Bool → Prop) → Prop) (hF1 : FnIs Try.prog fv1 cv1 (fun (x : (List Int)) => [toV1 (.sl (.int .i64)) x]) (fun (y : Bool) => [toV1 .bool y]) F1) (K : Int → Prop) (h : VC72 sv F1 K) : ACalls Try.prog 72 [toV1 (.sl (.sl (.int .i64))) sv, .c (.fn fv1 cv1)] (fun res => ∃ y, res = (fun y => [toV1 (.int .i64) y]) y ∧ K y) := by
  refine acalls_of_aw [(.int .i64)] [.t 4] Try.func72 rfl rfl rfl ?_
  unfold VC72 at h
  refine aw_seq ?_
  refine aw_region ?_
  refine awl_runp 1 [0, 1] [] (ob := (True ∧ True)) (st' := (⟨19, [(0, [], .v (.c (.p (.sl (.sl (.int .i64))) sv))), (1, [], .v (.c (.fn fv1 cv1)))], []⟩ : St)) (by kernel_rfl) ⟨trivial, trivial⟩ ?_
  refine awl_nil ?_
  refine thenQ_n ?_
  refine aw_seq ?_
  refine aw_seq ?_
  refine aw_region ?_
  refine awl_runp 3 [0, 1, 7, 8] [] (ob := (True ∧ True ∧ True ∧ True)) (st' := (⟨19, [(0, [], .v (.c (.p (.sl (.sl (.int .i64))) sv))), (1, [], .v (.c (.fn fv1 cv1))), (7, [], .v (.c (.p (.int .i64) (sv.length : Int)))), (8, [], .v (.c (.p (.int .i64) (0 : Int))))], []⟩ : St)) (by kernel_rfl) ⟨trivial, trivial, trivial, trivial⟩ ?_
  refine awl_nil ?_
  refine thenQ_n ?_
  refine withJoin (σ := Unit) (fun s => (⟨19, [], []⟩ : St)) (fun s => VC72_k1 K) (fun s h => ?_) (fun rest1 => ?_)
  · have h : VC72_k1 K := h
    unfold VC72_k1 at h
    refine thenQ_n ?_
    refine aw_seq ?_
    refine aw_region ?_
    refine awl_runp 1 [4] [] (ob := (True ∧ True)) (st' := (⟨19, [(4, [], .v (.c (.p (.int .i64) (-1 : Int))))], []⟩ : St)) (by kernel_rfl) ⟨trivial, trivial⟩ ?_
    refine awl_nil ?_
    refine thenQ_n ?_
    refine aw_ret ?_
    exact retQ_r (σ := Int) (R := (fun y => [toV1 (.int .i64) y])) (ob := (True ∧ True)) (-1 : Int) (by kernel_rfl) ⟨trivial, trivial⟩ h
  · refine aw_block ?_
    refine aw_loop (σ := Int) (fun s => (⟨19, [(0, [], .v (.c (.p (.sl (.sl (.int .i64))) sv))), (1, [], .v (.c (.fn fv1 cv1))), (7, [], .v (.c (.p (.int .i64) (sv.length : Int)))), (8, [], .v (.c (.p (.int .i64) s)))], []⟩ : St)) (fun s X => VC72_l1 sv F1 K s X) (s0 := (0 : Int)) (fun v8 X1 h => ?_) h
    have h : VC72_l1 sv F1 K v8 X1 := h
    unfold VC72_l1 at h
    refine aw_seq ?_
    refine aw_region ?_
    refine awl_runp 1 [0, 1, 7, 8, 9] [] (ob := (True ∧ True)) (st' := (⟨19, [(0, [], .v (.c (.p (.sl (.sl (.int .i64))) sv))), (1, [], .v (.c (.fn fv1 cv1))), (7, [], .v (.c (.p (.int .i64) (sv.length : Int)))), (8, [], .v (.c (.p (.int .i64) v8))), (9, [], .v (.c (.p .bool (decide (v8 < (sv.length : Int))))))], []⟩ : St)) (by kernel_rfl) ⟨trivial, trivial⟩ ?_
    refine awl_nil ?_
    refine thenQ_n ?_
    refine aw_seq ?_
    refine aw_cond (b := (decide (v8 < (sv.length : Int)))) (by kernel_rfl) (fun hb => ?_) (fun hb => ?_)
    · have h := h.1 hb
      refine aw_skip ?_
      refine thenQ_n ?_
      refine aw_seq ?_
      refine aw_block ?_
      refine aw_seq ?_
      refine aw_region ?_
      refine awl_runp 2 [0, 1, 5, 7, 8] [] (ob := (True ∧ True ∧ True)) (st' := (⟨19, [(0, [], .v (.c (.p (.sl (.sl (.int .i64))) sv))), (1, [], .v (.c (.fn fv1 cv1))), (5, [], .v (.c (.p (.int .i64) v8))), (7, [], .v (.c (.p (.int .i64) (sv.length : Int)))), (8, [], .v (.c (.p (.int .i64) v8)))], []⟩ : St)) (by kernel_rfl) ⟨trivial, trivial, trivial⟩ ?_
      refine awl_nil ?_
      refine thenQ_n ?_
      refine aw_seq ?_
      refine aw_region ?_
      obtain ⟨o1, h⟩ := h
      refine awl_runp 5 [0, 1, 5, 7, 8, 11, 15] [] (ob := (True ∧ True ∧ True ∧ inIdx v8 sv.length ∧ True ∧ True)) (st' := (⟨19, [(0, [], .v (.c (.p (.sl (.sl (.int .i64))) sv))), (1, [], .v (.c (.fn fv1 cv1))), (5, [], .v (.c (.p (.int .i64) v8))), (7, [], .v (.c (.p (.int .i64) (sv.length : Int)))), (8, [], .v (.c (.p (.int .i64) v8))), (11, [], .v (.c (.fn fv1 cv1))), (15, [], .v (.c (.p (.sl (.int .i64)) (sv.getD (v8).toNat ([] : (List Int))))))], []⟩ : St)) (by kernel_rfl) ⟨trivial, trivial, trivial, o1, trivial, trivial⟩ ?_
      refine awl_callk (p := []) (l := [toV1 (.sl (.int .i64)) (sv.getD (v8).toNat ([] : (List Int)))]) false [.d (.sl (.int .i64))] [0, 1, 5, 7, 8, 16] [] (fun (ret16v : Bool) => ((ret16v = true → K v8) ∧ (ret16v = false → (InR (v8 + (1 : Int)) ∧ X1 (v8 + (1 : Int)))))) (fun ret16v => [toV1 .bool ret16v]) (fun ret16v => (⟨19, [(0, [], .v (.c (.p (.sl (.sl (.int .i64))) sv))), (1, [], .v (.c (.fn fv1 cv1))), (5, [], .v (.c (.p (.int .i64) v8))), (7, [], .v (.c (.p (.int .i64) (sv.length : Int)))), (8, [], .v (.c (.p (.int .i64) v8))), (16, [], .v (.c (.p .bool ret16v)))], []⟩ : St)) (by kernel_rfl) rfl (by kernel_rfl) rfl (by kernel_rfl) hF1.1 (by kernel_rfl) (fun ret16v => by kernel_rfl) (fun e => by cases e) (fun hg => hF1.2 (sv.getD (v8).toNat ([] : (List Int))) _ h) (fun hg => noF hg) (fun ret16v h => ?_)
      have h : ((ret16v = true → K v8) ∧ (ret16v = false → (InR (v8 + (1 : Int)) ∧ X1 (v8 + (1 : Int))))) := h
      refine awl_nil ?_
      refine thenQ_n ?_
      refine aw_cond (b := ret16v) (by kernel_rfl) (fun hb => ?_) (fun hb => ?_)
      · have h := h.1 hb
        refine aw_seq ?_
        refine aw_region ?_
        refine awl_runp 2 [4] [] (ob := (True ∧ True ∧ True)) (st' := (⟨19, [(4, [], .v (.c (.p (.int .i64) v8)))], []⟩ : St)) (by kernel_rfl) ⟨trivial, trivial, trivial⟩ ?_
        refine awl_nil ?_
        refine thenQ_n ?_
        refine aw_ret ?_
        refine blockQ_r ?_
        refine thenQ_r ?_
        refine thenQ_r ?_
        refine blockQ_r ?_
        refine thenQ_r ?_
        exact retQ_r (σ := Int) (R := (fun y => [toV1 (.int .i64) y])) (ob := (True ∧ True)) v8 (by kernel_rfl) ⟨trivial, trivial⟩ h
      · have h := h.2 hb
        refine aw_skip ?_
        refine blockQ_n ?_
        refine thenQ_n ?_
        refine aw_region ?_
        obtain ⟨o1, h⟩ := h
        refine awl_runp 2 [0, 1, 7, 8] [] (ob := (InR (v8 + (1 : Int)) ∧ True ∧ True)) (st' := (⟨19, [(0, [], .v (.c (.p (.sl (.sl (.int .i64))) sv))), (1, [], .v (.c (.fn fv1 cv1))), (7, [], .v (.c (.p (.int .i64) (sv.length : Int)))), (8, [], .v (.c (.p (.int .i64) (v8 + (1 : Int)))))], []⟩ : St)) (by kernel_rfl) ⟨o1, trivial, trivial⟩ ?_
        refine awl_nil ?_
        exact thenQ_n ⟨(v8 + (1 : Int)), rfl, h⟩
    · have h := h.2 hb
      refine aw_conv [.prune [] []] (st' := (⟨19, [], []⟩ : St)) (by kernel_rfl) ?_
      refine aw_exit ?_
      refine thenQ_x ?_
      refine thenQ_x ?_
      refine blockQ_hit ?_
      exact rest1 () h

end Dec
