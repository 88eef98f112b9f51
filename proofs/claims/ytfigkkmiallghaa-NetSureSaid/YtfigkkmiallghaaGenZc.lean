/-
  Printed by dec2.py: of each function its plain demand, and that the demand gives the contract.
-/
import Derived.Test.YtfigkkmiallghaaGenZb
set_option linter.unusedVariables false
set_option linter.unusedSimpArgs false
set_option maxRecDepth 100000
namespace Dec
open Go Go.RowKit Go.Proofs

-- slices.ContainsFunc[[][]int,[]int]
def VC62 (sv : (List (List Int))) (F1 : (List Int) → (Bool → Prop) → Prop) (K : Bool → Prop) : Prop :=
  VC72 sv F1 (fun (ret7v : Int) => K (decide ((0 : Int) ≤ ret7v)))

set_option maxHeartbeats 4000000 in
theorem link62 (sv : (List (List Int))) (fv1 : FuncId) (cv1 : List Dat) (F1 : (List Int) → (Bool → Prop) → Prop) (hF1 : FnIs Try.prog fv1 cv1 (fun (x : (List Int)) => [toV1 (.sl (.int .i64)) x]) (fun (y : Bool) => [toV1 .bool y]) F1) (K : Bool → Prop) (h : VC62 sv F1 K) : ACalls Try.prog 62 [toV1 (.sl (.sl (.int .i64))) sv, .c (.fn fv1 cv1)] (fun res => ∃ y, res = (fun y => [toV1 .bool y]) y ∧ K y) := by
  refine acalls_of_aw [.bool] [.t 4] Try.func62 rfl rfl rfl ?_
  unfold VC62 at h
  refine aw_seq ?_
  refine aw_region ?_
  refine awl_runp 1 [0, 1] [] (ob := (True ∧ True)) (st' := (⟨9, [(0, [], .v (.c (.p (.sl (.sl (.int .i64))) sv))), (1, [], .v (.c (.fn fv1 cv1)))], []⟩ : St)) (by kernel_rfl) ⟨trivial, trivial⟩ ?_
  refine awl_nil ?_
  refine thenQ_n ?_
  refine aw_seq ?_
  refine aw_region ?_
  refine awl_runp 2 [5, 6] [] (ob := (True ∧ True ∧ True)) (st' := (⟨9, [(5, [], .v (.c (.p (.sl (.sl (.int .i64))) sv))), (6, [], .v (.c (.fn fv1 cv1)))], []⟩ : St)) (by kernel_rfl) ⟨trivial, trivial, trivial⟩ ?_
  refine awl_callk (p := []) (l := [toV1 (.sl (.sl (.int .i64))) sv, .c (.fn fv1 cv1)]) (cl := []) false [.d (.sl (.sl (.int .i64))), .fn] [7] [] (fun (ret7v : Int) => K (decide ((0 : Int) ≤ ret7v))) (fun ret7v => [toV1 (.int .i64) ret7v]) (fun ret7v => (⟨9, [(7, [], .v (.c (.p (.int .i64) ret7v)))], []⟩ : St)) (by kernel_rfl) rfl (by kernel_rfl) rfl (by kernel_rfl) Try.call72 (by kernel_rfl) (fun ret7v => by kernel_rfl) (fun e => by cases e) (fun hg => link72 sv fv1 cv1 F1 hF1 _ h) (fun hg => noF hg) (fun ret7v h => ?_)
  have h : K (decide ((0 : Int) ≤ ret7v)) := h
  refine awl_runp 2 [4] [] (ob := (True ∧ True ∧ True)) (st' := (⟨9, [(4, [], .v (.c (.p .bool (decide ((0 : Int) ≤ ret7v)))))], []⟩ : St)) (by kernel_rfl) ⟨trivial, trivial, trivial⟩ ?_
  refine awl_nil ?_
  refine thenQ_n ?_
  refine aw_ret ?_
  exact retQ_r (σ := Bool) (R := (fun y => [toV1 .bool y])) (ob := (True ∧ True)) (decide ((0 : Int) ≤ ret7v)) (by kernel_rfl) ⟨trivial, trivial⟩ h

-- coppicer/machine.Check$2
def VC64 (n : Int) (a1 : (Int × (Int × ((List (List Int)) × (Int × Int))))) (K : Bool → Prop) : Prop :=
  (InR (a1.1 - (1 : Int)) ∧ VC61 n (0 : Int) (a1.1 - (1 : Int)) (fun (ret8v : Bool) => K ret8v))

set_option maxHeartbeats 4000000 in
theorem link64 (n : Int) (a1 : (Int × (Int × ((List (List Int)) × (Int × Int))))) (K : Bool → Prop) (h : VC64 n a1 K) : ACalls Try.prog 64 [toV1 (.int .i64) n, .c (.ad (.pr (.int .i64) (.pr (.int .i64) (.pr (.sl (.sl (.int .i64))) (.pr (.int .i64) (.int .u32))))) a1)] (fun res => ∃ y, res = (fun y => [toV1 .bool y]) y ∧ K y) := by
  refine acalls_of_aw [.bool] [.t 3] Try.func64 rfl rfl rfl ?_
  unfold VC64 at h
  refine aw_seq ?_
  refine aw_region ?_
  refine awl_runp 1 [0, 1] [] (ob := (True ∧ True)) (st' := (⟨9, [(0, [], .v (.c (.p (.int .i64) n))), (1, [], .v (.c (.ad (.pr (.int .i64) (.pr (.int .i64) (.pr (.sl (.sl (.int .i64))) (.pr (.int .i64) (.int .u32))))) a1)))], []⟩ : St)) (by kernel_rfl) ⟨trivial, trivial⟩ ?_
  refine awl_nil ?_
  refine thenQ_n ?_
  refine aw_seq ?_
  refine aw_region ?_
  obtain ⟨o1, h⟩ := h
  refine awl_runp 4 [4, 7] [] (ob := (True ∧ True ∧ True ∧ InR (a1.1 - (1 : Int)) ∧ True)) (st' := (⟨9, [(4, [], .v (.c (.p (.int .i64) n))), (7, [], .v (.c (.p (.int .i64) (a1.1 - (1 : Int)))))], []⟩ : St)) (by kernel_rfl) ⟨trivial, trivial, trivial, o1, trivial⟩ ?_
  refine awl_callk (p := []) (l := [toV1 (.int .i64) n, toV1 (.int .i64) (0 : Int), toV1 (.int .i64) (a1.1 - (1 : Int))]) (cl := []) false [.d (.int .i64), .d (.int .i64), .d (.int .i64)] [8] [] (fun (ret8v : Bool) => K ret8v) (fun ret8v => [toV1 .bool ret8v]) (fun ret8v => (⟨9, [(8, [], .v (.c (.p .bool ret8v)))], []⟩ : St)) (by kernel_rfl) rfl (by kernel_rfl) rfl (by kernel_rfl) Try.call61 (by kernel_rfl) (fun ret8v => by kernel_rfl) (fun e => by cases e) (fun hg => link61 n (0 : Int) (a1.1 - (1 : Int)) _ h) (fun hg => noF hg) (fun ret8v h => ?_)
  have h : K ret8v := h
  refine awl_runp 1 [3] [] (ob := (True ∧ True)) (st' := (⟨9, [(3, [], .v (.c (.p .bool ret8v)))], []⟩ : St)) (by kernel_rfl) ⟨trivial, trivial⟩ ?_
  refine awl_nil ?_
  refine thenQ_n ?_
  refine aw_ret ?_
  exact retQ_r (σ := Bool) (R := (fun y => [toV1 .bool y])) (ob := (True ∧ True)) ret8v (by kernel_rfl) ⟨trivial, trivial⟩ h

-- coppicer/machine.Check
def VC40_k1 (m : (Int × (Int × ((List (List Int)) × (Int × Int))))) (K : Int → Prop) : Prop :=
  VC64 m.2.2.2.1 m (fun (ret53v : Bool) => (((!ret53v) = true → K (2 : Int)) ∧ ((!ret53v) = false → ((0 ≤ m.2.2.2.2 ∧ 0 ≤ m.1) ∧ (((!decide ((bShr .u32 m.2.2.2.2 m.1) = (0 : Int))) = true → K (4 : Int)) ∧ ((!decide ((bShr .u32 m.2.2.2.2 m.1) = (0 : Int))) = false → K (0 : Int)))))))

def VC40_k2 (v34 : Int) (X1 : Int → Prop) : Prop :=
  (InR (v34 + (1 : Int)) ∧ X1 (v34 + (1 : Int)))

def VC40_l2 (m : (Int × (Int × ((List (List Int)) × (Int × Int))))) (K : Int → Prop) (v34 : Int) (X1 : Int → Prop) (v40 : Int) (X2 : Int → Prop) : Prop :=
  (((decide (v40 < ((m.2.2.1.getD (v34).toNat ([] : (List Int))).length : Int))) = true → (inIdx v40 (m.2.2.1.getD (v34).toNat ([] : (List Int))).length ∧ VC64 ((m.2.2.1.getD (v34).toNat ([] : (List Int))).getD (v40).toNat (0 : Int)) m (fun (ret46v : Bool) => (((!ret46v) = true → K (2 : Int)) ∧ ((!ret46v) = false → (InR (v40 + (1 : Int)) ∧ X2 (v40 + (1 : Int)))))))) ∧ ((decide (v40 < ((m.2.2.1.getD (v34).toNat ([] : (List Int))).length : Int))) = false → VC40_k2 v34 X1))

def VC40_l1 (m : (Int × (Int × ((List (List Int)) × (Int × Int))))) (K : Int → Prop) (v34 : Int) (X1 : Int → Prop) : Prop :=
  (((decide (v34 < (m.2.2.1.length : Int))) = true → (inIdx v34 m.2.2.1.length ∧ Loop (σ := Int) (fun s X => VC40_l2 m K v34 X1 s X) (0 : Int))) ∧ ((decide (v34 < (m.2.2.1.length : Int))) = false → VC40_k1 m K))

def VC40 (m : (Int × (Int × ((List (List Int)) × (Int × Int))))) (K : Int → Prop) : Prop :=
  VC61 m.1 (1 : Int) (7 : Int) (fun (ret10v : Bool) => gcall (α := Bool) (!(!ret10v)) (VC61 m.2.1 (1 : Int) (3 : Int)) false (fun (ret15v : Bool) => ((((!ret10v) || (!ret15v)) = true → K (1 : Int)) ∧ (((!ret10v) || (!ret15v)) = false → gcall (α := Bool) (!(!decide ((m.2.2.1.length : Int) = m.1))) (VC62 m.2.2.1 (fun (x : (List Int)) (K : Bool → Prop) => VC63 x m K)) false (fun (ret28v : Bool) => ((((!decide ((m.2.2.1.length : Int) = m.1)) || ret28v) = true → K (3 : Int)) ∧ (((!decide ((m.2.2.1.length : Int) = m.1)) || ret28v) = false → Loop (σ := Int) (fun s X => VC40_l1 m K s X) (0 : Int))))))))

set_option maxHeartbeats 4000000 in
theorem link40 (m : (Int × (Int × ((List (List Int)) × (Int × Int))))) (K : Int → Prop) (h : VC40 m K) : ACalls Try.prog 40 [toV1 (.pr (.int .i64) (.pr (.int .i64) (.pr (.sl (.sl (.int .i64))) (.pr (.int .i64) (.int .u32))))) m] (fun res => ∃ y, res = (fun y => [toV1 (.int .i64) y]) y ∧ K y) := by
  refine acalls_of_aw [(.int .i64)] [.t 2] Try.func40 rfl rfl rfl ?_
  unfold VC40 at h
  refine aw_seq ?_
  refine aw_region ?_
  refine awl_runp 2 [1] [1] (ob := (True ∧ True ∧ True)) (st' := (⟨61, [(1, [], .v (.c (.ptr 1 0)))], [(1, [], .box [.p (.int .i64) m.1, .p (.int .i64) m.2.1, .p (.sl (.sl (.int .i64))) m.2.2.1, .p (.int .i64) m.2.2.2.1, .p (.int .u32) m.2.2.2.2])]⟩ : St)) (by kernel_rfl) ⟨trivial, trivial, trivial⟩ ?_
  refine awl_nil ?_
  refine thenQ_n ?_
  refine aw_seq ?_
  refine aw_seq ?_
  refine aw_region ?_
  refine awl_runp 2 [1, 9] [1] (ob := (True ∧ True ∧ True)) (st' := (⟨61, [(1, [], .v (.c (.ptr 1 0))), (9, [], .v (.c (.p (.int .i64) m.1)))], [(1, [], .box [.p (.int .i64) m.1, .p (.int .i64) m.2.1, .p (.sl (.sl (.int .i64))) m.2.2.1, .p (.int .i64) m.2.2.2.1, .p (.int .u32) m.2.2.2.2])]⟩ : St)) (by kernel_rfl) ⟨trivial, trivial, trivial⟩ ?_
  refine awl_callk (p := []) (l := [toV1 (.int .i64) m.1, toV1 (.int .i64) (1 : Int), toV1 (.int .i64) (7 : Int)]) (cl := []) false [.d (.int .i64), .d (.int .i64), .d (.int .i64)] [1, 10] [1] (fun (ret10v : Bool) => gcall (α := Bool) (!(!ret10v)) (VC61 m.2.1 (1 : Int) (3 : Int)) false (fun (ret15v : Bool) => ((((!ret10v) || (!ret15v)) = true → K (1 : Int)) ∧ (((!ret10v) || (!ret15v)) = false → gcall (α := Bool) (!(!decide ((m.2.2.1.length : Int) = m.1))) (VC62 m.2.2.1 (fun (x : (List Int)) (K : Bool → Prop) => VC63 x m K)) false (fun (ret28v : Bool) => ((((!decide ((m.2.2.1.length : Int) = m.1)) || ret28v) = true → K (3 : Int)) ∧ (((!decide ((m.2.2.1.length : Int) = m.1)) || ret28v) = false → Loop (σ := Int) (fun s X => VC40_l1 m K s X) (0 : Int)))))))) (fun ret10v => [toV1 .bool ret10v]) (fun ret10v => (⟨61, [(1, [], .v (.c (.ptr 1 0))), (10, [], .v (.c (.p .bool ret10v)))], [(1, [], .box [.p (.int .i64) m.1, .p (.int .i64) m.2.1, .p (.sl (.sl (.int .i64))) m.2.2.1, .p (.int .i64) m.2.2.2.1, .p (.int .u32) m.2.2.2.2])]⟩ : St)) (by kernel_rfl) rfl (by kernel_rfl) rfl (by kernel_rfl) Try.call61 (by kernel_rfl) (fun ret10v => by kernel_rfl) (fun e => by cases e) (fun hg => link61 m.1 (1 : Int) (7 : Int) _ h) (fun hg => noF hg) (fun ret10v h => ?_)
  have h : gcall (α := Bool) (!(!ret10v)) (VC61 m.2.1 (1 : Int) (3 : Int)) false (fun (ret15v : Bool) => ((((!ret10v) || (!ret15v)) = true → K (1 : Int)) ∧ (((!ret10v) || (!ret15v)) = false → gcall (α := Bool) (!(!decide ((m.2.2.1.length : Int) = m.1))) (VC62 m.2.2.1 (fun (x : (List Int)) (K : Bool → Prop) => VC63 x m K)) false (fun (ret28v : Bool) => ((((!decide ((m.2.2.1.length : Int) = m.1)) || ret28v) = true → K (3 : Int)) ∧ (((!decide ((m.2.2.1.length : Int) = m.1)) || ret28v) = false → Loop (σ := Int) (fun s X => VC40_l1 m K s X) (0 : Int))))))) := h
  refine awl_runp 4 [1, 12, 14] [1] (ob := (True ∧ True ∧ ((!ret10v) = false → True) ∧ ((!ret10v) = false → True) ∧ True)) (st' := (⟨61, [(1, [], .v (.c (.ptr 1 0))), (12, [], .v (.c (.p .bool (!ret10v)))), (14, [(12, false)], .v (.c (.p (.int .i64) m.2.1)))], [(1, [], .box [.p (.int .i64) m.1, .p (.int .i64) m.2.1, .p (.sl (.sl (.int .i64))) m.2.2.1, .p (.int .i64) m.2.2.2.1, .p (.int .u32) m.2.2.2.2])]⟩ : St)) (by kernel_rfl) ⟨trivial, trivial, (fun _ => trivial), (fun _ => trivial), trivial⟩ ?_
  refine awl_callk (p := [(12, false)]) (l := [toV1 (.int .i64) m.2.1, toV1 (.int .i64) (1 : Int), toV1 (.int .i64) (3 : Int)]) (cl := []) false [.d (.int .i64), .d (.int .i64), .d (.int .i64)] [1, 12, 15] [1] (fun (ret15v : Bool) => ((((!ret10v) || (!ret15v)) = true → K (1 : Int)) ∧ (((!ret10v) || (!ret15v)) = false → gcall (α := Bool) (!(!decide ((m.2.2.1.length : Int) = m.1))) (VC62 m.2.2.1 (fun (x : (List Int)) (K : Bool → Prop) => VC63 x m K)) false (fun (ret28v : Bool) => ((((!decide ((m.2.2.1.length : Int) = m.1)) || ret28v) = true → K (3 : Int)) ∧ (((!decide ((m.2.2.1.length : Int) = m.1)) || ret28v) = false → Loop (σ := Int) (fun s X => VC40_l1 m K s X) (0 : Int))))))) (fun ret15v => [toV1 .bool ret15v]) (fun ret15v => (⟨61, [(1, [], .v (.c (.ptr 1 0))), (12, [], .v (.c (.p .bool (!ret10v)))), (15, [(12, false)], .v (.c (.p .bool ret15v)))], [(1, [], .box [.p (.int .i64) m.1, .p (.int .i64) m.2.1, .p (.sl (.sl (.int .i64))) m.2.2.1, .p (.int .i64) m.2.2.2.1, .p (.int .u32) m.2.2.2.2])]⟩ : St)) (by kernel_rfl) rfl (by kernel_rfl) rfl (by kernel_rfl) Try.call61 (by kernel_rfl) (fun ret15v => by kernel_rfl) (fun e => by cases e) (fun hg => link61 m.2.1 (1 : Int) (3 : Int) _ (by have := gcall_T h (show (!(!ret10v)) = true from hg); exact this)) (fun hg => ⟨false, by have := gcall_F h (show (!(!ret10v)) = false from hg); exact this⟩) (fun ret15v h => ?_)
  have h : ((((!ret10v) || (!ret15v)) = true → K (1 : Int)) ∧ (((!ret10v) || (!ret15v)) = false → gcall (α := Bool) (!(!decide ((m.2.2.1.length : Int) = m.1))) (VC62 m.2.2.1 (fun (x : (List Int)) (K : Bool → Prop) => VC63 x m K)) false (fun (ret28v : Bool) => ((((!decide ((m.2.2.1.length : Int) = m.1)) || ret28v) = true → K (3 : Int)) ∧ (((!decide ((m.2.2.1.length : Int) = m.1)) || ret28v) = false → Loop (σ := Int) (fun s X => VC40_l1 m K s X) (0 : Int)))))) := h
  refine awl_runp 2 [1, 17] [1] (ob := (((!ret10v) = false → True) ∧ True ∧ True)) (st' := (⟨61, [(1, [], .v (.c (.ptr 1 0))), (17, [], .v (.c (.p .bool ((!ret10v) || (!ret15v)))))], [(1, [], .box [.p (.int .i64) m.1, .p (.int .i64) m.2.1, .p (.sl (.sl (.int .i64))) m.2.2.1, .p (.int .i64) m.2.2.2.1, .p (.int .u32) m.2.2.2.2])]⟩ : St)) (by kernel_rfl) ⟨(fun _ => trivial), trivial, trivial⟩ ?_
  refine awl_nil ?_
  refine thenQ_n ?_
  refine aw_cond (b := ((!ret10v) || (!ret15v))) (by kernel_rfl) (fun hb => ?_) (fun hb => ?_)
  · have h := h.1 hb
    refine aw_seq ?_
    refine aw_region ?_
    refine awl_runp 1 [2] [] (ob := (True ∧ True)) (st' := (⟨61, [(2, [], .v (.c (.p (.int .i64) (1 : Int))))], []⟩ : St)) (by kernel_rfl) ⟨trivial, trivial⟩ ?_
    refine awl_nil ?_
    refine thenQ_n ?_
    refine aw_ret ?_
    refine thenQ_r ?_
    exact retQ_r (σ := Int) (R := (fun y => [toV1 (.int .i64) y])) (ob := (True ∧ True)) (1 : Int) (by kernel_rfl) ⟨trivial, trivial⟩ h
  · have h := h.2 hb
    refine aw_skip ?_
    refine thenQ_n ?_
    refine aw_seq ?_
    refine aw_seq ?_
    refine aw_region ?_
    refine awl_runp 9 [1, 24, 26] [1] (ob := (True ∧ True ∧ True ∧ True ∧ True ∧ True ∧ True ∧ ((!decide ((m.2.2.1.length : Int) = m.1)) = false → True) ∧ ((!decide ((m.2.2.1.length : Int) = m.1)) = false → True) ∧ True)) (st' := (⟨61, [(1, [], .v (.c (.ptr 1 0))), (24, [], .v (.c (.p .bool (!decide ((m.2.2.1.length : Int) = m.1))))), (26, [(24, false)], .v (.c (.p (.sl (.sl (.int .i64))) m.2.2.1)))], [(1, [], .box [.p (.int .i64) m.1, .p (.int .i64) m.2.1, .p (.sl (.sl (.int .i64))) m.2.2.1, .p (.int .i64) m.2.2.2.1, .p (.int .u32) m.2.2.2.2])]⟩ : St)) (by kernel_rfl) ⟨trivial, trivial, trivial, trivial, trivial, trivial, trivial, (fun _ => trivial), (fun _ => trivial), trivial⟩ ?_
    refine awl_conv [.freezeB 1 (.pr (.int .i64) (.pr (.int .i64) (.pr (.sl (.sl (.int .i64))) (.pr (.int .i64) (.int .u32)))))] (st' := (⟨61, [(1, [], .v (.c (.ad (.pr (.int .i64) (.pr (.int .i64) (.pr (.sl (.sl (.int .i64))) (.pr (.int .i64) (.int .u32))))) m))), (24, [], .v (.c (.p .bool (!decide ((m.2.2.1.length : Int) = m.1))))), (26, [(24, false)], .v (.c (.p (.sl (.sl (.int .i64))) m.2.2.1)))], []⟩ : St)) (by kernel_rfl) ?_
    refine awl_runp 1 [1, 24, 26, 27] [] (ob := (((!decide ((m.2.2.1.length : Int) = m.1)) = false → True) ∧ True)) (st' := (⟨61, [(1, [], .v (.c (.ad (.pr (.int .i64) (.pr (.int .i64) (.pr (.sl (.sl (.int .i64))) (.pr (.int .i64) (.int .u32))))) m))), (24, [], .v (.c (.p .bool (!decide ((m.2.2.1.length : Int) = m.1))))), (26, [(24, false)], .v (.c (.p (.sl (.sl (.int .i64))) m.2.2.1))), (27, [(24, false)], .v (.c (.fn 63 [(⟨(.pr (.int .i64) (.pr (.int .i64) (.pr (.sl (.sl (.int .i64))) (.pr (.int .i64) (.int .u32))))), m⟩ : Dat)])))], []⟩ : St)) (by kernel_rfl) ⟨(fun _ => trivial), trivial⟩ ?_
    refine awl_callk (p := [(24, false)]) (l := [toV1 (.sl (.sl (.int .i64))) m.2.2.1, .c (.fn 63 [(⟨(.pr (.int .i64) (.pr (.int .i64) (.pr (.sl (.sl (.int .i64))) (.pr (.int .i64) (.int .u32))))), m⟩ : Dat)])]) (cl := []) false [.d (.sl (.sl (.int .i64))), .fn] [1, 24, 28] [] (fun (ret28v : Bool) => ((((!decide ((m.2.2.1.length : Int) = m.1)) || ret28v) = true → K (3 : Int)) ∧ (((!decide ((m.2.2.1.length : Int) = m.1)) || ret28v) = false → Loop (σ := Int) (fun s X => VC40_l1 m K s X) (0 : Int)))) (fun ret28v => [toV1 .bool ret28v]) (fun ret28v => (⟨61, [(1, [], .v (.c (.ad (.pr (.int .i64) (.pr (.int .i64) (.pr (.sl (.sl (.int .i64))) (.pr (.int .i64) (.int .u32))))) m))), (24, [], .v (.c (.p .bool (!decide ((m.2.2.1.length : Int) = m.1))))), (28, [(24, false)], .v (.c (.p .bool ret28v)))], []⟩ : St)) (by kernel_rfl) rfl (by kernel_rfl) rfl (by kernel_rfl) Try.call62 (by kernel_rfl) (fun ret28v => by kernel_rfl) (fun e => by cases e) (fun hg => link62 m.2.2.1 63 [(⟨(.pr (.int .i64) (.pr (.int .i64) (.pr (.sl (.sl (.int .i64))) (.pr (.int .i64) (.int .u32))))), m⟩ : Dat)] (fun (x : (List Int)) (K : Bool → Prop) => VC63 x m K) ⟨Try.call63, fun x K h => link63 x m K h⟩ _ (by have := gcall_T h (show (!(!decide ((m.2.2.1.length : Int) = m.1))) = true from hg); exact this)) (fun hg => ⟨false, by have := gcall_F h (show (!(!decide ((m.2.2.1.length : Int) = m.1))) = false from hg); exact this⟩) (fun ret28v h => ?_)
    have h : ((((!decide ((m.2.2.1.length : Int) = m.1)) || ret28v) = true → K (3 : Int)) ∧ (((!decide ((m.2.2.1.length : Int) = m.1)) || ret28v) = false → Loop (σ := Int) (fun s X => VC40_l1 m K s X) (0 : Int))) := h
    refine awl_runp 1 [1, 29] [] (ob := (True ∧ True)) (st' := (⟨61, [(1, [], .v (.c (.ad (.pr (.int .i64) (.pr (.int .i64) (.pr (.sl (.sl (.int .i64))) (.pr (.int .i64) (.int .u32))))) m))), (29, [], .v (.c (.p .bool ((!decide ((m.2.2.1.length : Int) = m.1)) || ret28v))))], []⟩ : St)) (by kernel_rfl) ⟨trivial, trivial⟩ ?_
    refine awl_nil ?_
    refine thenQ_n ?_
    refine aw_cond (b := ((!decide ((m.2.2.1.length : Int) = m.1)) || ret28v)) (by kernel_rfl) (fun hb => ?_) (fun hb => ?_)
    · have h := h.1 hb
      refine aw_seq ?_
      refine aw_region ?_
      refine awl_runp 1 [2] [] (ob := (True ∧ True)) (st' := (⟨61, [(2, [], .v (.c (.p (.int .i64) (3 : Int))))], []⟩ : St)) (by kernel_rfl) ⟨trivial, trivial⟩ ?_
      refine awl_nil ?_
      refine thenQ_n ?_
      refine aw_ret ?_
      refine thenQ_r ?_
      exact retQ_r (σ := Int) (R := (fun y => [toV1 (.int .i64) y])) (ob := (True ∧ True)) (3 : Int) (by kernel_rfl) ⟨trivial, trivial⟩ h
    · have h := h.2 hb
      refine aw_skip ?_
      refine thenQ_n ?_
      refine aw_seq ?_
      refine aw_region ?_
      refine awl_runp 2 [1, 3] [] (ob := (True ∧ True ∧ True)) (st' := (⟨61, [(1, [], .v (.c (.ad (.pr (.int .i64) (.pr (.int .i64) (.pr (.sl (.sl (.int .i64))) (.pr (.int .i64) (.int .u32))))) m))), (3, [], .v (.c (.fn 64 [(⟨(.pr (.int .i64) (.pr (.int .i64) (.pr (.sl (.sl (.int .i64))) (.pr (.int .i64) (.int .u32))))), m⟩ : Dat)])))], []⟩ : St)) (by kernel_rfl) ⟨trivial, trivial, trivial⟩ ?_
      refine awl_nil ?_
      refine thenQ_n ?_
      refine aw_seq ?_
      refine aw_seq ?_
      refine aw_region ?_
      refine awl_runp 4 [1, 3, 32, 33, 34] [] (ob := (True ∧ True ∧ True ∧ True ∧ True)) (st' := (⟨61, [(1, [], .v (.c (.ad (.pr (.int .i64) (.pr (.int .i64) (.pr (.sl (.sl (.int .i64))) (.pr (.int .i64) (.int .u32))))) m))), (3, [], .v (.c (.fn 64 [(⟨(.pr (.int .i64) (.pr (.int .i64) (.pr (.sl (.sl (.int .i64))) (.pr (.int .i64) (.int .u32))))), m⟩ : Dat)]))), (32, [], .v (.c (.p (.sl (.sl (.int .i64))) m.2.2.1))), (33, [], .v (.c (.p (.int .i64) (m.2.2.1.length : Int)))), (34, [], .v (.c (.p (.int .i64) (0 : Int))))], []⟩ : St)) (by kernel_rfl) ⟨trivial, trivial, trivial, trivial, trivial⟩ ?_
      refine awl_nil ?_
      refine thenQ_n ?_
      refine withJoin (σ := Unit) (fun s => (⟨61, [(1, [], .v (.c (.ad (.pr (.int .i64) (.pr (.int .i64) (.pr (.sl (.sl (.int .i64))) (.pr (.int .i64) (.int .u32))))) m))), (3, [], .v (.c (.fn 64 [(⟨(.pr (.int .i64) (.pr (.int .i64) (.pr (.sl (.sl (.int .i64))) (.pr (.int .i64) (.int .u32))))), m⟩ : Dat)])))], []⟩ : St)) (fun s => VC40_k1 m K) (fun s h => ?_) (fun rest1 => ?_)
      · have h : VC40_k1 m K := h
        unfold VC40_k1 at h
        refine thenQ_n ?_
        refine aw_seq ?_
        refine aw_seq ?_
        refine aw_region ?_
        refine awl_runp 3 [1, 50, 52] [] (ob := (True ∧ True ∧ True ∧ True)) (st' := (⟨61, [(1, [], .v (.c (.ad (.pr (.int .i64) (.pr (.int .i64) (.pr (.sl (.sl (.int .i64))) (.pr (.int .i64) (.int .u32))))) m))), (50, [], .v (.c (.fn 64 [(⟨(.pr (.int .i64) (.pr (.int .i64) (.pr (.sl (.sl (.int .i64))) (.pr (.int .i64) (.int .u32))))), m⟩ : Dat)]))), (52, [], .v (.c (.p (.int .i64) m.2.2.2.1)))], []⟩ : St)) (by kernel_rfl) ⟨trivial, trivial, trivial, trivial⟩ ?_
        refine awl_callk (p := []) (l := [toV1 (.int .i64) m.2.2.2.1]) (cl := [.c (.ad (.pr (.int .i64) (.pr (.int .i64) (.pr (.sl (.sl (.int .i64))) (.pr (.int .i64) (.int .u32))))) m)]) false [.d (.int .i64)] [1, 53] [] (fun (ret53v : Bool) => (((!ret53v) = true → K (2 : Int)) ∧ ((!ret53v) = false → ((0 ≤ m.2.2.2.2 ∧ 0 ≤ m.1) ∧ (((!decide ((bShr .u32 m.2.2.2.2 m.1) = (0 : Int))) = true → K (4 : Int)) ∧ ((!decide ((bShr .u32 m.2.2.2.2 m.1) = (0 : Int))) = false → K (0 : Int))))))) (fun ret53v => [toV1 .bool ret53v]) (fun ret53v => (⟨61, [(1, [], .v (.c (.ad (.pr (.int .i64) (.pr (.int .i64) (.pr (.sl (.sl (.int .i64))) (.pr (.int .i64) (.int .u32))))) m))), (53, [], .v (.c (.p .bool ret53v)))], []⟩ : St)) (by kernel_rfl) rfl (by kernel_rfl) rfl (by kernel_rfl) Try.call64 (by kernel_rfl) (fun ret53v => by kernel_rfl) (fun e => by cases e) (fun hg => link64 m.2.2.2.1 m _ h) (fun hg => noF hg) (fun ret53v h => ?_)
        have h : (((!ret53v) = true → K (2 : Int)) ∧ ((!ret53v) = false → ((0 ≤ m.2.2.2.2 ∧ 0 ≤ m.1) ∧ (((!decide ((bShr .u32 m.2.2.2.2 m.1) = (0 : Int))) = true → K (4 : Int)) ∧ ((!decide ((bShr .u32 m.2.2.2.2 m.1) = (0 : Int))) = false → K (0 : Int)))))) := h
        refine awl_runp 1 [1, 54] [] (ob := (True ∧ True)) (st' := (⟨61, [(1, [], .v (.c (.ad (.pr (.int .i64) (.pr (.int .i64) (.pr (.sl (.sl (.int .i64))) (.pr (.int .i64) (.int .u32))))) m))), (54, [], .v (.c (.p .bool (!ret53v))))], []⟩ : St)) (by kernel_rfl) ⟨trivial, trivial⟩ ?_
        refine awl_nil ?_
        refine thenQ_n ?_
        refine aw_cond (b := (!ret53v)) (by kernel_rfl) (fun hb => ?_) (fun hb => ?_)
        · have h := h.1 hb
          refine aw_seq ?_
          refine aw_region ?_
          refine awl_runp 1 [2] [] (ob := (True ∧ True)) (st' := (⟨61, [(2, [], .v (.c (.p (.int .i64) (2 : Int))))], []⟩ : St)) (by kernel_rfl) ⟨trivial, trivial⟩ ?_
          refine awl_nil ?_
          refine thenQ_n ?_
          refine aw_ret ?_
          refine thenQ_r ?_
          exact retQ_r (σ := Int) (R := (fun y => [toV1 (.int .i64) y])) (ob := (True ∧ True)) (2 : Int) (by kernel_rfl) ⟨trivial, trivial⟩ h
        · have h := h.2 hb
          refine aw_skip ?_
          refine thenQ_n ?_
          refine aw_seq ?_
          refine aw_seq ?_
          refine aw_region ?_
          obtain ⟨o1, h⟩ := h
          refine awl_runp 6 [60] [] (ob := (True ∧ True ∧ True ∧ True ∧ (0 ≤ m.2.2.2.2 ∧ 0 ≤ m.1) ∧ True ∧ True)) (st' := (⟨61, [(60, [], .v (.c (.p .bool (!decide ((bShr .u32 m.2.2.2.2 m.1) = (0 : Int))))))], []⟩ : St)) (by kernel_rfl) ⟨trivial, trivial, trivial, trivial, o1, trivial, trivial⟩ ?_
          refine awl_nil ?_
          refine thenQ_n ?_
          refine aw_cond (b := (!decide ((bShr .u32 m.2.2.2.2 m.1) = (0 : Int)))) (by kernel_rfl) (fun hb => ?_) (fun hb => ?_)
          · have h := h.1 hb
            refine aw_seq ?_
            refine aw_region ?_
            refine awl_runp 1 [2] [] (ob := (True ∧ True)) (st' := (⟨61, [(2, [], .v (.c (.p (.int .i64) (4 : Int))))], []⟩ : St)) (by kernel_rfl) ⟨trivial, trivial⟩ ?_
            refine awl_nil ?_
            refine thenQ_n ?_
            refine aw_ret ?_
            refine thenQ_r ?_
            exact retQ_r (σ := Int) (R := (fun y => [toV1 (.int .i64) y])) (ob := (True ∧ True)) (4 : Int) (by kernel_rfl) ⟨trivial, trivial⟩ h
          · have h := h.2 hb
            refine aw_skip ?_
            refine thenQ_n ?_
            refine aw_seq ?_
            refine aw_region ?_
            refine awl_runp 1 [2] [] (ob := (True ∧ True)) (st' := (⟨61, [(2, [], .v (.c (.p (.int .i64) (0 : Int))))], []⟩ : St)) (by kernel_rfl) ⟨trivial, trivial⟩ ?_
            refine awl_nil ?_
            refine thenQ_n ?_
            refine aw_ret ?_
            exact retQ_r (σ := Int) (R := (fun y => [toV1 (.int .i64) y])) (ob := (True ∧ True)) (0 : Int) (by kernel_rfl) ⟨trivial, trivial⟩ h
      · refine aw_block ?_
        refine aw_loop (σ := Int) (fun s => (⟨61, [(1, [], .v (.c (.ad (.pr (.int .i64) (.pr (.int .i64) (.pr (.sl (.sl (.int .i64))) (.pr (.int .i64) (.int .u32))))) m))), (3, [], .v (.c (.fn 64 [(⟨(.pr (.int .i64) (.pr (.int .i64) (.pr (.sl (.sl (.int .i64))) (.pr (.int .i64) (.int .u32))))), m⟩ : Dat)]))), (32, [], .v (.c (.p (.sl (.sl (.int .i64))) m.2.2.1))), (33, [], .v (.c (.p (.int .i64) (m.2.2.1.length : Int)))), (34, [], .v (.c (.p (.int .i64) s)))], []⟩ : St)) (fun s X => VC40_l1 m K s X) (s0 := (0 : Int)) (fun v34 X1 h => ?_) h
        have h : VC40_l1 m K v34 X1 := h
        unfold VC40_l1 at h
        refine aw_seq ?_
        refine aw_region ?_
        refine awl_runp 1 [1, 3, 32, 33, 34, 35] [] (ob := (True ∧ True)) (st' := (⟨61, [(1, [], .v (.c (.ad (.pr (.int .i64) (.pr (.int .i64) (.pr (.sl (.sl (.int .i64))) (.pr (.int .i64) (.int .u32))))) m))), (3, [], .v (.c (.fn 64 [(⟨(.pr (.int .i64) (.pr (.int .i64) (.pr (.sl (.sl (.int .i64))) (.pr (.int .i64) (.int .u32))))), m⟩ : Dat)]))), (32, [], .v (.c (.p (.sl (.sl (.int .i64))) m.2.2.1))), (33, [], .v (.c (.p (.int .i64) (m.2.2.1.length : Int)))), (34, [], .v (.c (.p (.int .i64) v34))), (35, [], .v (.c (.p .bool (decide (v34 < (m.2.2.1.length : Int))))))], []⟩ : St)) (by kernel_rfl) ⟨trivial, trivial⟩ ?_
        refine awl_nil ?_
        refine thenQ_n ?_
        refine aw_seq ?_
        refine aw_cond (b := (decide (v34 < (m.2.2.1.length : Int)))) (by kernel_rfl) (fun hb => ?_) (fun hb => ?_)
        · have h := h.1 hb
          refine aw_skip ?_
          refine thenQ_n ?_
          refine aw_seq ?_
          refine aw_block ?_
          refine aw_seq ?_
          refine aw_region ?_
          obtain ⟨o1, h⟩ := h
          refine awl_runp 3 [1, 3, 5, 32, 33, 34] [] (ob := (inIdx v34 m.2.2.1.length ∧ True ∧ True ∧ True)) (st' := (⟨61, [(1, [], .v (.c (.ad (.pr (.int .i64) (.pr (.int .i64) (.pr (.sl (.sl (.int .i64))) (.pr (.int .i64) (.int .u32))))) m))), (3, [], .v (.c (.fn 64 [(⟨(.pr (.int .i64) (.pr (.int .i64) (.pr (.sl (.sl (.int .i64))) (.pr (.int .i64) (.int .u32))))), m⟩ : Dat)]))), (5, [], .v (.c (.p (.sl (.int .i64)) (m.2.2.1.getD (v34).toNat ([] : (List Int)))))), (32, [], .v (.c (.p (.sl (.sl (.int .i64))) m.2.2.1))), (33, [], .v (.c (.p (.int .i64) (m.2.2.1.length : Int)))), (34, [], .v (.c (.p (.int .i64) v34)))], []⟩ : St)) (by kernel_rfl) ⟨o1, trivial, trivial, trivial⟩ ?_
          refine awl_nil ?_
          refine thenQ_n ?_
          refine aw_seq ?_
          refine aw_region ?_
          refine awl_runp 3 [1, 3, 32, 33, 34, 38, 39, 40] [] (ob := (True ∧ True ∧ True ∧ True)) (st' := (⟨61, [(1, [], .v (.c (.ad (.pr (.int .i64) (.pr (.int .i64) (.pr (.sl (.sl (.int .i64))) (.pr (.int .i64) (.int .u32))))) m))), (3, [], .v (.c (.fn 64 [(⟨(.pr (.int .i64) (.pr (.int .i64) (.pr (.sl (.sl (.int .i64))) (.pr (.int .i64) (.int .u32))))), m⟩ : Dat)]))), (32, [], .v (.c (.p (.sl (.sl (.int .i64))) m.2.2.1))), (33, [], .v (.c (.p (.int .i64) (m.2.2.1.length : Int)))), (34, [], .v (.c (.p (.int .i64) v34))), (38, [], .v (.c (.p (.sl (.int .i64)) (m.2.2.1.getD (v34).toNat ([] : (List Int)))))), (39, [], .v (.c (.p (.int .i64) ((m.2.2.1.getD (v34).toNat ([] : (List Int))).length : Int)))), (40, [], .v (.c (.p (.int .i64) (0 : Int))))], []⟩ : St)) (by kernel_rfl) ⟨trivial, trivial, trivial, trivial⟩ ?_
          refine awl_nil ?_
          refine thenQ_n ?_
          refine withJoin (σ := Unit) (fun s => (⟨61, [(1, [], .v (.c (.ad (.pr (.int .i64) (.pr (.int .i64) (.pr (.sl (.sl (.int .i64))) (.pr (.int .i64) (.int .u32))))) m))), (3, [], .v (.c (.fn 64 [(⟨(.pr (.int .i64) (.pr (.int .i64) (.pr (.sl (.sl (.int .i64))) (.pr (.int .i64) (.int .u32))))), m⟩ : Dat)]))), (32, [], .v (.c (.p (.sl (.sl (.int .i64))) m.2.2.1))), (33, [], .v (.c (.p (.int .i64) (m.2.2.1.length : Int)))), (34, [], .v (.c (.p (.int .i64) v34)))], []⟩ : St)) (fun s => VC40_k2 v34 X1) (fun s h => ?_) (fun rest2 => ?_)
          · have h : VC40_k2 v34 X1 := h
            unfold VC40_k2 at h
            refine blockQ_n ?_
            refine thenQ_n ?_
            refine aw_region ?_
            obtain ⟨o1, h⟩ := h
            refine awl_runp 2 [1, 3, 32, 33, 34] [] (ob := (InR (v34 + (1 : Int)) ∧ True ∧ True)) (st' := (⟨61, [(1, [], .v (.c (.ad (.pr (.int .i64) (.pr (.int .i64) (.pr (.sl (.sl (.int .i64))) (.pr (.int .i64) (.int .u32))))) m))), (3, [], .v (.c (.fn 64 [(⟨(.pr (.int .i64) (.pr (.int .i64) (.pr (.sl (.sl (.int .i64))) (.pr (.int .i64) (.int .u32))))), m⟩ : Dat)]))), (32, [], .v (.c (.p (.sl (.sl (.int .i64))) m.2.2.1))), (33, [], .v (.c (.p (.int .i64) (m.2.2.1.length : Int)))), (34, [], .v (.c (.p (.int .i64) (v34 + (1 : Int)))))], []⟩ : St)) (by kernel_rfl) ⟨o1, trivial, trivial⟩ ?_
            refine awl_nil ?_
            exact thenQ_n ⟨(v34 + (1 : Int)), rfl, h⟩
          · refine aw_block ?_
            refine aw_loop (σ := Int) (fun s => (⟨61, [(1, [], .v (.c (.ad (.pr (.int .i64) (.pr (.int .i64) (.pr (.sl (.sl (.int .i64))) (.pr (.int .i64) (.int .u32))))) m))), (3, [], .v (.c (.fn 64 [(⟨(.pr (.int .i64) (.pr (.int .i64) (.pr (.sl (.sl (.int .i64))) (.pr (.int .i64) (.int .u32))))), m⟩ : Dat)]))), (32, [], .v (.c (.p (.sl (.sl (.int .i64))) m.2.2.1))), (33, [], .v (.c (.p (.int .i64) (m.2.2.1.length : Int)))), (34, [], .v (.c (.p (.int .i64) v34))), (38, [], .v (.c (.p (.sl (.int .i64)) (m.2.2.1.getD (v34).toNat ([] : (List Int)))))), (39, [], .v (.c (.p (.int .i64) ((m.2.2.1.getD (v34).toNat ([] : (List Int))).length : Int)))), (40, [], .v (.c (.p (.int .i64) s)))], []⟩ : St)) (fun s X => VC40_l2 m K v34 X1 s X) (s0 := (0 : Int)) (fun v40 X2 h => ?_) h
            have h : VC40_l2 m K v34 X1 v40 X2 := h
            unfold VC40_l2 at h
            refine aw_seq ?_
            refine aw_region ?_
            refine awl_runp 1 [1, 3, 32, 33, 34, 38, 39, 40, 41] [] (ob := (True ∧ True)) (st' := (⟨61, [(1, [], .v (.c (.ad (.pr (.int .i64) (.pr (.int .i64) (.pr (.sl (.sl (.int .i64))) (.pr (.int .i64) (.int .u32))))) m))), (3, [], .v (.c (.fn 64 [(⟨(.pr (.int .i64) (.pr (.int .i64) (.pr (.sl (.sl (.int .i64))) (.pr (.int .i64) (.int .u32))))), m⟩ : Dat)]))), (32, [], .v (.c (.p (.sl (.sl (.int .i64))) m.2.2.1))), (33, [], .v (.c (.p (.int .i64) (m.2.2.1.length : Int)))), (34, [], .v (.c (.p (.int .i64) v34))), (38, [], .v (.c (.p (.sl (.int .i64)) (m.2.2.1.getD (v34).toNat ([] : (List Int)))))), (39, [], .v (.c (.p (.int .i64) ((m.2.2.1.getD (v34).toNat ([] : (List Int))).length : Int)))), (40, [], .v (.c (.p (.int .i64) v40))), (41, [], .v (.c (.p .bool (decide (v40 < ((m.2.2.1.getD (v34).toNat ([] : (List Int))).length : Int))))))], []⟩ : St)) (by kernel_rfl) ⟨trivial, trivial⟩ ?_
            refine awl_nil ?_
            refine thenQ_n ?_
            refine aw_seq ?_
            refine aw_cond (b := (decide (v40 < ((m.2.2.1.getD (v34).toNat ([] : (List Int))).length : Int)))) (by kernel_rfl) (fun hb => ?_) (fun hb => ?_)
            · have h := h.1 hb
              refine aw_skip ?_
              refine thenQ_n ?_
              refine aw_seq ?_
              refine aw_block ?_
              refine aw_seq ?_
              refine aw_region ?_
              obtain ⟨o1, h⟩ := h
              refine awl_runp 3 [1, 3, 7, 32, 33, 34, 38, 39, 40] [] (ob := (inIdx v40 (m.2.2.1.getD (v34).toNat ([] : (List Int))).length ∧ True ∧ True ∧ True)) (st' := (⟨61, [(1, [], .v (.c (.ad (.pr (.int .i64) (.pr (.int .i64) (.pr (.sl (.sl (.int .i64))) (.pr (.int .i64) (.int .u32))))) m))), (3, [], .v (.c (.fn 64 [(⟨(.pr (.int .i64) (.pr (.int .i64) (.pr (.sl (.sl (.int .i64))) (.pr (.int .i64) (.int .u32))))), m⟩ : Dat)]))), (7, [], .v (.c (.p (.int .i64) ((m.2.2.1.getD (v34).toNat ([] : (List Int))).getD (v40).toNat (0 : Int))))), (32, [], .v (.c (.p (.sl (.sl (.int .i64))) m.2.2.1))), (33, [], .v (.c (.p (.int .i64) (m.2.2.1.length : Int)))), (34, [], .v (.c (.p (.int .i64) v34))), (38, [], .v (.c (.p (.sl (.int .i64)) (m.2.2.1.getD (v34).toNat ([] : (List Int)))))), (39, [], .v (.c (.p (.int .i64) ((m.2.2.1.getD (v34).toNat ([] : (List Int))).length : Int)))), (40, [], .v (.c (.p (.int .i64) v40)))], []⟩ : St)) (by kernel_rfl) ⟨o1, trivial, trivial, trivial⟩ ?_
              refine awl_nil ?_
              refine thenQ_n ?_
              refine aw_seq ?_
              refine aw_region ?_
              refine awl_runp 2 [1, 3, 32, 33, 34, 38, 39, 40, 44, 45] [] (ob := (True ∧ True ∧ True)) (st' := (⟨61, [(1, [], .v (.c (.ad (.pr (.int .i64) (.pr (.int .i64) (.pr (.sl (.sl (.int .i64))) (.pr (.int .i64) (.int .u32))))) m))), (3, [], .v (.c (.fn 64 [(⟨(.pr (.int .i64) (.pr (.int .i64) (.pr (.sl (.sl (.int .i64))) (.pr (.int .i64) (.int .u32))))), m⟩ : Dat)]))), (32, [], .v (.c (.p (.sl (.sl (.int .i64))) m.2.2.1))), (33, [], .v (.c (.p (.int .i64) (m.2.2.1.length : Int)))), (34, [], .v (.c (.p (.int .i64) v34))), (38, [], .v (.c (.p (.sl (.int .i64)) (m.2.2.1.getD (v34).toNat ([] : (List Int)))))), (39, [], .v (.c (.p (.int .i64) ((m.2.2.1.getD (v34).toNat ([] : (List Int))).length : Int)))), (40, [], .v (.c (.p (.int .i64) v40))), (44, [], .v (.c (.fn 64 [(⟨(.pr (.int .i64) (.pr (.int .i64) (.pr (.sl (.sl (.int .i64))) (.pr (.int .i64) (.int .u32))))), m⟩ : Dat)]))), (45, [], .v (.c (.p (.int .i64) ((m.2.2.1.getD (v34).toNat ([] : (List Int))).getD (v40).toNat (0 : Int)))))], []⟩ : St)) (by kernel_rfl) ⟨trivial, trivial, trivial⟩ ?_
              refine awl_callk (p := []) (l := [toV1 (.int .i64) ((m.2.2.1.getD (v34).toNat ([] : (List Int))).getD (v40).toNat (0 : Int))]) (cl := [.c (.ad (.pr (.int .i64) (.pr (.int .i64) (.pr (.sl (.sl (.int .i64))) (.pr (.int .i64) (.int .u32))))) m)]) false [.d (.int .i64)] [1, 3, 32, 33, 34, 38, 39, 40, 46] [] (fun (ret46v : Bool) => (((!ret46v) = true → K (2 : Int)) ∧ ((!ret46v) = false → (InR (v40 + (1 : Int)) ∧ X2 (v40 + (1 : Int)))))) (fun ret46v => [toV1 .bool ret46v]) (fun ret46v => (⟨61, [(1, [], .v (.c (.ad (.pr (.int .i64) (.pr (.int .i64) (.pr (.sl (.sl (.int .i64))) (.pr (.int .i64) (.int .u32))))) m))), (3, [], .v (.c (.fn 64 [(⟨(.pr (.int .i64) (.pr (.int .i64) (.pr (.sl (.sl (.int .i64))) (.pr (.int .i64) (.int .u32))))), m⟩ : Dat)]))), (32, [], .v (.c (.p (.sl (.sl (.int .i64))) m.2.2.1))), (33, [], .v (.c (.p (.int .i64) (m.2.2.1.length : Int)))), (34, [], .v (.c (.p (.int .i64) v34))), (38, [], .v (.c (.p (.sl (.int .i64)) (m.2.2.1.getD (v34).toNat ([] : (List Int)))))), (39, [], .v (.c (.p (.int .i64) ((m.2.2.1.getD (v34).toNat ([] : (List Int))).length : Int)))), (40, [], .v (.c (.p (.int .i64) v40))), (46, [], .v (.c (.p .bool ret46v)))], []⟩ : St)) (by kernel_rfl) rfl (by kernel_rfl) rfl (by kernel_rfl) Try.call64 (by kernel_rfl) (fun ret46v => by kernel_rfl) (fun e => by cases e) (fun hg => link64 ((m.2.2.1.getD (v34).toNat ([] : (List Int))).getD (v40).toNat (0 : Int)) m _ h) (fun hg => noF hg) (fun ret46v h => ?_)
              have h : (((!ret46v) = true → K (2 : Int)) ∧ ((!ret46v) = false → (InR (v40 + (1 : Int)) ∧ X2 (v40 + (1 : Int))))) := h
              refine awl_runp 1 [1, 3, 32, 33, 34, 38, 39, 40, 47] [] (ob := (True ∧ True)) (st' := (⟨61, [(1, [], .v (.c (.ad (.pr (.int .i64) (.pr (.int .i64) (.pr (.sl (.sl (.int .i64))) (.pr (.int .i64) (.int .u32))))) m))), (3, [], .v (.c (.fn 64 [(⟨(.pr (.int .i64) (.pr (.int .i64) (.pr (.sl (.sl (.int .i64))) (.pr (.int .i64) (.int .u32))))), m⟩ : Dat)]))), (32, [], .v (.c (.p (.sl (.sl (.int .i64))) m.2.2.1))), (33, [], .v (.c (.p (.int .i64) (m.2.2.1.length : Int)))), (34, [], .v (.c (.p (.int .i64) v34))), (38, [], .v (.c (.p (.sl (.int .i64)) (m.2.2.1.getD (v34).toNat ([] : (List Int)))))), (39, [], .v (.c (.p (.int .i64) ((m.2.2.1.getD (v34).toNat ([] : (List Int))).length : Int)))), (40, [], .v (.c (.p (.int .i64) v40))), (47, [], .v (.c (.p .bool (!ret46v))))], []⟩ : St)) (by kernel_rfl) ⟨trivial, trivial⟩ ?_
              refine awl_nil ?_
              refine thenQ_n ?_
              refine aw_cond (b := (!ret46v)) (by kernel_rfl) (fun hb => ?_) (fun hb => ?_)
              · have h := h.1 hb
                refine aw_seq ?_
                refine aw_region ?_
                refine awl_runp 1 [2] [] (ob := (True ∧ True)) (st' := (⟨61, [(2, [], .v (.c (.p (.int .i64) (2 : Int))))], []⟩ : St)) (by kernel_rfl) ⟨trivial, trivial⟩ ?_
                refine awl_nil ?_
                refine thenQ_n ?_
                refine aw_ret ?_
                refine blockQ_r ?_
                refine thenQ_r ?_
                refine thenQ_r ?_
                refine blockQ_r ?_
                refine blockQ_r ?_
                refine thenQ_r ?_
                refine thenQ_r ?_
                refine blockQ_r ?_
                refine thenQ_r ?_
                exact retQ_r (σ := Int) (R := (fun y => [toV1 (.int .i64) y])) (ob := (True ∧ True)) (2 : Int) (by kernel_rfl) ⟨trivial, trivial⟩ h
              · have h := h.2 hb
                refine aw_skip ?_
                refine blockQ_n ?_
                refine thenQ_n ?_
                refine aw_region ?_
                obtain ⟨o1, h⟩ := h
                refine awl_runp 2 [1, 3, 32, 33, 34, 38, 39, 40] [] (ob := (InR (v40 + (1 : Int)) ∧ True ∧ True)) (st' := (⟨61, [(1, [], .v (.c (.ad (.pr (.int .i64) (.pr (.int .i64) (.pr (.sl (.sl (.int .i64))) (.pr (.int .i64) (.int .u32))))) m))), (3, [], .v (.c (.fn 64 [(⟨(.pr (.int .i64) (.pr (.int .i64) (.pr (.sl (.sl (.int .i64))) (.pr (.int .i64) (.int .u32))))), m⟩ : Dat)]))), (32, [], .v (.c (.p (.sl (.sl (.int .i64))) m.2.2.1))), (33, [], .v (.c (.p (.int .i64) (m.2.2.1.length : Int)))), (34, [], .v (.c (.p (.int .i64) v34))), (38, [], .v (.c (.p (.sl (.int .i64)) (m.2.2.1.getD (v34).toNat ([] : (List Int)))))), (39, [], .v (.c (.p (.int .i64) ((m.2.2.1.getD (v34).toNat ([] : (List Int))).length : Int)))), (40, [], .v (.c (.p (.int .i64) (v40 + (1 : Int)))))], []⟩ : St)) (by kernel_rfl) ⟨o1, trivial, trivial⟩ ?_
                refine awl_nil ?_
                exact thenQ_n ⟨(v40 + (1 : Int)), rfl, h⟩
            · have h := h.2 hb
              refine aw_conv [.prune [1, 3, 32, 33, 34] []] (st' := (⟨61, [(1, [], .v (.c (.ad (.pr (.int .i64) (.pr (.int .i64) (.pr (.sl (.sl (.int .i64))) (.pr (.int .i64) (.int .u32))))) m))), (3, [], .v (.c (.fn 64 [(⟨(.pr (.int .i64) (.pr (.int .i64) (.pr (.sl (.sl (.int .i64))) (.pr (.int .i64) (.int .u32))))), m⟩ : Dat)]))), (32, [], .v (.c (.p (.sl (.sl (.int .i64))) m.2.2.1))), (33, [], .v (.c (.p (.int .i64) (m.2.2.1.length : Int)))), (34, [], .v (.c (.p (.int .i64) v34)))], []⟩ : St)) (by kernel_rfl) ?_
              refine aw_exit ?_
              refine thenQ_x ?_
              refine thenQ_x ?_
              refine blockQ_hit ?_
              exact rest2 () h
        · have h := h.2 hb
          refine aw_conv [.prune [1, 3] []] (st' := (⟨61, [(1, [], .v (.c (.ad (.pr (.int .i64) (.pr (.int .i64) (.pr (.sl (.sl (.int .i64))) (.pr (.int .i64) (.int .u32))))) m))), (3, [], .v (.c (.fn 64 [(⟨(.pr (.int .i64) (.pr (.int .i64) (.pr (.sl (.sl (.int .i64))) (.pr (.int .i64) (.int .u32))))), m⟩ : Dat)])))], []⟩ : St)) (by kernel_rfl) ?_
          refine aw_exit ?_
          refine thenQ_x ?_
          refine thenQ_x ?_
          refine blockQ_hit ?_
          exact rest1 () h

-- coppicer/machine.Run
def VC15_k1 (m : (Int × (Int × ((List (List Int)) × (Int × Int))))) (K : Int × Bool × Int → Prop) (atv : Int) : Prop :=
  VC42 m.2.2.2.2 atv (fun (ret45v : Bool) => K (atv, ret45v, (0 : Int)))

def VC15_l1 (m : (Int × (Int × ((List (List Int)) × (Int × Int))))) (w : (List Int)) (K : Int × Bool × Int → Prop) (atv : Int) (v28 : Int) (X1 : Int × Int → Prop) : Prop :=
  (((decide (v28 < (w.length : Int))) = true → (inIdx v28 w.length ∧ (inIdx atv m.2.2.1.length ∧ inIdx (w.getD (v28).toNat (0 : Int)) (m.2.2.1.getD (atv).toNat ([] : (List Int))).length ∧ (InR (v28 + (1 : Int)) ∧ X1 (((m.2.2.1.getD (atv).toNat ([] : (List Int))).getD ((w.getD (v28).toNat (0 : Int))).toNat (0 : Int)), (v28 + (1 : Int))))))) ∧ ((decide (v28 < (w.length : Int))) = false → VC15_k1 m K atv))

def VC15 (m : (Int × (Int × ((List (List Int)) × (Int × Int))))) (w : (List Int)) (K : Int × Bool × Int → Prop) : Prop :=
  VC40 m (fun (ret13v : Int) => (((!decide (ret13v = (0 : Int))) = true → K ((0 : Int), false, ret13v)) ∧ ((!decide (ret13v = (0 : Int))) = false → VC41 m.2.1 w (fun (ret20v : Int) => (((!decide (ret20v = (0 : Int))) = true → K ((0 : Int), false, ret20v)) ∧ ((!decide (ret20v = (0 : Int))) = false → Loop (σ := Int × Int) (fun s X => VC15_l1 m w K s.1 s.2 X) (m.2.2.2.1, (0 : Int))))))))

set_option maxHeartbeats 4000000 in
theorem link15 (m : (Int × (Int × ((List (List Int)) × (Int × Int))))) (w : (List Int)) (K : Int × Bool × Int → Prop) (h : VC15 m w K) : ACalls Try.prog 15 [toV1 (.pr (.int .i64) (.pr (.int .i64) (.pr (.sl (.sl (.int .i64))) (.pr (.int .i64) (.int .u32))))) m, toV1 (.sl (.int .i64)) w] (fun res => ∃ y, res = (fun y => [toV1 (.int .i64) y.1, toV1 .bool y.2.1, toV1 (.int .i64) y.2.2]) y ∧ K y) := by
  refine acalls_of_aw [(.int .i64), .bool, (.int .i64)] [.t 4, .t 5, .t 6] Try.func15 rfl rfl rfl ?_
  unfold VC15 at h
  refine aw_seq ?_
  refine aw_region ?_
  refine awl_runp 4 [1, 2] [2] (ob := (True ∧ True ∧ True ∧ True ∧ True)) (st' := (⟨46, [(1, [], .v (.c (.p (.sl (.int .i64)) w))), (2, [], .v (.c (.ptr 2 0)))], [(2, [], .box [.p (.int .i64) m.1, .p (.int .i64) m.2.1, .p (.sl (.sl (.int .i64))) m.2.2.1, .p (.int .i64) m.2.2.2.1, .p (.int .u32) m.2.2.2.2])]⟩ : St)) (by kernel_rfl) ⟨trivial, trivial, trivial, trivial, trivial⟩ ?_
  refine awl_nil ?_
  refine thenQ_n ?_
  refine aw_seq ?_
  refine aw_seq ?_
  refine aw_region ?_
  refine awl_runp 1 [1, 2, 12] [2] (ob := (True ∧ True)) (st' := (⟨46, [(1, [], .v (.c (.p (.sl (.int .i64)) w))), (2, [], .v (.c (.ptr 2 0))), (12, [], .v (.agg [.p (.int .i64) m.1, .p (.int .i64) m.2.1, .p (.sl (.sl (.int .i64))) m.2.2.1, .p (.int .i64) m.2.2.2.1, .p (.int .u32) m.2.2.2.2]))], [(2, [], .box [.p (.int .i64) m.1, .p (.int .i64) m.2.1, .p (.sl (.sl (.int .i64))) m.2.2.1, .p (.int .i64) m.2.2.2.1, .p (.int .u32) m.2.2.2.2])]⟩ : St)) (by kernel_rfl) ⟨trivial, trivial⟩ ?_
  refine awl_callk (p := []) (l := [toV1 (.pr (.int .i64) (.pr (.int .i64) (.pr (.sl (.sl (.int .i64))) (.pr (.int .i64) (.int .u32))))) m]) (cl := []) false [.d (.pr (.int .i64) (.pr (.int .i64) (.pr (.sl (.sl (.int .i64))) (.pr (.int .i64) (.int .u32)))))] [1, 2, 13] [2] (fun (ret13v : Int) => (((!decide (ret13v = (0 : Int))) = true → K ((0 : Int), false, ret13v)) ∧ ((!decide (ret13v = (0 : Int))) = false → VC41 m.2.1 w (fun (ret20v : Int) => (((!decide (ret20v = (0 : Int))) = true → K ((0 : Int), false, ret20v)) ∧ ((!decide (ret20v = (0 : Int))) = false → Loop (σ := Int × Int) (fun s X => VC15_l1 m w K s.1 s.2 X) (m.2.2.2.1, (0 : Int)))))))) (fun ret13v => [toV1 (.int .i64) ret13v]) (fun ret13v => (⟨46, [(1, [], .v (.c (.p (.sl (.int .i64)) w))), (2, [], .v (.c (.ptr 2 0))), (13, [], .v (.c (.p (.int .i64) ret13v)))], [(2, [], .box [.p (.int .i64) m.1, .p (.int .i64) m.2.1, .p (.sl (.sl (.int .i64))) m.2.2.1, .p (.int .i64) m.2.2.2.1, .p (.int .u32) m.2.2.2.2])]⟩ : St)) (by kernel_rfl) rfl (by kernel_rfl) rfl (by kernel_rfl) Try.call40 (by kernel_rfl) (fun ret13v => by kernel_rfl) (fun e => by cases e) (fun hg => link40 m _ h) (fun hg => noF hg) (fun ret13v h => ?_)
  have h : (((!decide (ret13v = (0 : Int))) = true → K ((0 : Int), false, ret13v)) ∧ ((!decide (ret13v = (0 : Int))) = false → VC41 m.2.1 w (fun (ret20v : Int) => (((!decide (ret20v = (0 : Int))) = true → K ((0 : Int), false, ret20v)) ∧ ((!decide (ret20v = (0 : Int))) = false → Loop (σ := Int × Int) (fun s X => VC15_l1 m w K s.1 s.2 X) (m.2.2.2.1, (0 : Int))))))) := h
  refine awl_runp 1 [1, 2, 7] [2] (ob := (True ∧ True)) (st' := (⟨46, [(1, [], .v (.c (.p (.sl (.int .i64)) w))), (2, [], .v (.c (.ptr 2 0))), (7, [], .v (.c (.p (.int .i64) ret13v)))], [(2, [], .box [.p (.int .i64) m.1, .p (.int .i64) m.2.1, .p (.sl (.sl (.int .i64))) m.2.2.1, .p (.int .i64) m.2.2.2.1, .p (.int .u32) m.2.2.2.2])]⟩ : St)) (by kernel_rfl) ⟨trivial, trivial⟩ ?_
  refine awl_nil ?_
  refine thenQ_n ?_
  refine aw_seq ?_
  refine aw_region ?_
  refine awl_runp 2 [1, 2, 7, 15] [2] (ob := (True ∧ True ∧ True)) (st' := (⟨46, [(1, [], .v (.c (.p (.sl (.int .i64)) w))), (2, [], .v (.c (.ptr 2 0))), (7, [], .v (.c (.p (.int .i64) ret13v))), (15, [], .v (.c (.p .bool (!decide (ret13v = (0 : Int))))))], [(2, [], .box [.p (.int .i64) m.1, .p (.int .i64) m.2.1, .p (.sl (.sl (.int .i64))) m.2.2.1, .p (.int .i64) m.2.2.2.1, .p (.int .u32) m.2.2.2.2])]⟩ : St)) (by kernel_rfl) ⟨trivial, trivial, trivial⟩ ?_
  refine awl_nil ?_
  refine thenQ_n ?_
  refine aw_cond (b := (!decide (ret13v = (0 : Int)))) (by kernel_rfl) (fun hb => ?_) (fun hb => ?_)
  · have h := h.1 hb
    refine aw_seq ?_
    refine aw_region ?_
    refine awl_runp 4 [4, 5, 6] [] (ob := (True ∧ True ∧ True ∧ True ∧ True)) (st' := (⟨46, [(4, [], .v (.c (.p (.int .i64) (0 : Int)))), (5, [], .v (.c (.p .bool false))), (6, [], .v (.c (.p (.int .i64) ret13v)))], []⟩ : St)) (by kernel_rfl) ⟨trivial, trivial, trivial, trivial, trivial⟩ ?_
    refine awl_nil ?_
    refine thenQ_n ?_
    refine aw_ret ?_
    refine thenQ_r ?_
    exact retQ_r (σ := Int × Bool × Int) (R := (fun y => [toV1 (.int .i64) y.1, toV1 .bool y.2.1, toV1 (.int .i64) y.2.2])) (ob := (True ∧ True ∧ True ∧ True)) ((0 : Int), false, ret13v) (by kernel_rfl) ⟨trivial, trivial, trivial, trivial⟩ h
  · have h := h.2 hb
    refine aw_skip ?_
    refine thenQ_n ?_
    refine aw_seq ?_
    refine aw_seq ?_
    refine aw_region ?_
    refine awl_runp 3 [1, 2, 18, 19] [2] (ob := (True ∧ True ∧ True ∧ True)) (st' := (⟨46, [(1, [], .v (.c (.p (.sl (.int .i64)) w))), (2, [], .v (.c (.ptr 2 0))), (18, [], .v (.c (.p (.int .i64) m.2.1))), (19, [], .v (.c (.p (.sl (.int .i64)) w)))], [(2, [], .box [.p (.int .i64) m.1, .p (.int .i64) m.2.1, .p (.sl (.sl (.int .i64))) m.2.2.1, .p (.int .i64) m.2.2.2.1, .p (.int .u32) m.2.2.2.2])]⟩ : St)) (by kernel_rfl) ⟨trivial, trivial, trivial, trivial⟩ ?_
    refine awl_callk (p := []) (l := [toV1 (.int .i64) m.2.1, toV1 (.sl (.int .i64)) w]) (cl := []) false [.d (.int .i64), .d (.sl (.int .i64))] [1, 2, 20] [2] (fun (ret20v : Int) => (((!decide (ret20v = (0 : Int))) = true → K ((0 : Int), false, ret20v)) ∧ ((!decide (ret20v = (0 : Int))) = false → Loop (σ := Int × Int) (fun s X => VC15_l1 m w K s.1 s.2 X) (m.2.2.2.1, (0 : Int))))) (fun ret20v => [toV1 (.int .i64) ret20v]) (fun ret20v => (⟨46, [(1, [], .v (.c (.p (.sl (.int .i64)) w))), (2, [], .v (.c (.ptr 2 0))), (20, [], .v (.c (.p (.int .i64) ret20v)))], [(2, [], .box [.p (.int .i64) m.1, .p (.int .i64) m.2.1, .p (.sl (.sl (.int .i64))) m.2.2.1, .p (.int .i64) m.2.2.2.1, .p (.int .u32) m.2.2.2.2])]⟩ : St)) (by kernel_rfl) rfl (by kernel_rfl) rfl (by kernel_rfl) Try.call41 (by kernel_rfl) (fun ret20v => by kernel_rfl) (fun e => by cases e) (fun hg => link41 m.2.1 w _ h) (fun hg => noF hg) (fun ret20v h => ?_)
    have h : (((!decide (ret20v = (0 : Int))) = true → K ((0 : Int), false, ret20v)) ∧ ((!decide (ret20v = (0 : Int))) = false → Loop (σ := Int × Int) (fun s X => VC15_l1 m w K s.1 s.2 X) (m.2.2.2.1, (0 : Int)))) := h
    refine awl_runp 1 [1, 2, 8] [2] (ob := (True ∧ True)) (st' := (⟨46, [(1, [], .v (.c (.p (.sl (.int .i64)) w))), (2, [], .v (.c (.ptr 2 0))), (8, [], .v (.c (.p (.int .i64) ret20v)))], [(2, [], .box [.p (.int .i64) m.1, .p (.int .i64) m.2.1, .p (.sl (.sl (.int .i64))) m.2.2.1, .p (.int .i64) m.2.2.2.1, .p (.int .u32) m.2.2.2.2])]⟩ : St)) (by kernel_rfl) ⟨trivial, trivial⟩ ?_
    refine awl_nil ?_
    refine thenQ_n ?_
    refine aw_seq ?_
    refine aw_region ?_
    refine awl_runp 2 [1, 2, 8, 22] [2] (ob := (True ∧ True ∧ True)) (st' := (⟨46, [(1, [], .v (.c (.p (.sl (.int .i64)) w))), (2, [], .v (.c (.ptr 2 0))), (8, [], .v (.c (.p (.int .i64) ret20v))), (22, [], .v (.c (.p .bool (!decide (ret20v = (0 : Int))))))], [(2, [], .box [.p (.int .i64) m.1, .p (.int .i64) m.2.1, .p (.sl (.sl (.int .i64))) m.2.2.1, .p (.int .i64) m.2.2.2.1, .p (.int .u32) m.2.2.2.2])]⟩ : St)) (by kernel_rfl) ⟨trivial, trivial, trivial⟩ ?_
    refine awl_nil ?_
    refine thenQ_n ?_
    refine aw_cond (b := (!decide (ret20v = (0 : Int)))) (by kernel_rfl) (fun hb => ?_) (fun hb => ?_)
    · have h := h.1 hb
      refine aw_seq ?_
      refine aw_region ?_
      refine awl_runp 4 [4, 5, 6] [] (ob := (True ∧ True ∧ True ∧ True ∧ True)) (st' := (⟨46, [(4, [], .v (.c (.p (.int .i64) (0 : Int)))), (5, [], .v (.c (.p .bool false))), (6, [], .v (.c (.p (.int .i64) ret20v)))], []⟩ : St)) (by kernel_rfl) ⟨trivial, trivial, trivial, trivial, trivial⟩ ?_
      refine awl_nil ?_
      refine thenQ_n ?_
      refine aw_ret ?_
      refine thenQ_r ?_
      exact retQ_r (σ := Int × Bool × Int) (R := (fun y => [toV1 (.int .i64) y.1, toV1 .bool y.2.1, toV1 (.int .i64) y.2.2])) (ob := (True ∧ True ∧ True ∧ True)) ((0 : Int), false, ret20v) (by kernel_rfl) ⟨trivial, trivial, trivial, trivial⟩ h
    · have h := h.2 hb
      refine aw_skip ?_
      refine thenQ_n ?_
      refine aw_seq ?_
      refine aw_region ?_
      refine awl_runp 3 [1, 2, 9] [2] (ob := (True ∧ True ∧ True ∧ True)) (st' := (⟨46, [(1, [], .v (.c (.p (.sl (.int .i64)) w))), (2, [], .v (.c (.ptr 2 0))), (9, [], .v (.c (.p (.int .i64) m.2.2.2.1)))], [(2, [], .box [.p (.int .i64) m.1, .p (.int .i64) m.2.1, .p (.sl (.sl (.int .i64))) m.2.2.1, .p (.int .i64) m.2.2.2.1, .p (.int .u32) m.2.2.2.2])]⟩ : St)) (by kernel_rfl) ⟨trivial, trivial, trivial, trivial⟩ ?_
      refine awl_nil ?_
      refine thenQ_n ?_
      refine aw_seq ?_
      refine aw_seq ?_
      refine aw_region ?_
      refine awl_runp 3 [2, 9, 26, 27, 28] [2] (ob := (True ∧ True ∧ True ∧ True)) (st' := (⟨46, [(2, [], .v (.c (.ptr 2 0))), (9, [], .v (.c (.p (.int .i64) m.2.2.2.1))), (26, [], .v (.c (.p (.sl (.int .i64)) w))), (27, [], .v (.c (.p (.int .i64) (w.length : Int)))), (28, [], .v (.c (.p (.int .i64) (0 : Int))))], [(2, [], .box [.p (.int .i64) m.1, .p (.int .i64) m.2.1, .p (.sl (.sl (.int .i64))) m.2.2.1, .p (.int .i64) m.2.2.2.1, .p (.int .u32) m.2.2.2.2])]⟩ : St)) (by kernel_rfl) ⟨trivial, trivial, trivial, trivial⟩ ?_
      refine awl_nil ?_
      refine thenQ_n ?_
      refine withJoin (σ := Int) (fun s => (⟨46, [(2, [], .v (.c (.ptr 2 0))), (9, [], .v (.c (.p (.int .i64) s)))], [(2, [], .box [.p (.int .i64) m.1, .p (.int .i64) m.2.1, .p (.sl (.sl (.int .i64))) m.2.2.1, .p (.int .i64) m.2.2.2.1, .p (.int .u32) m.2.2.2.2])]⟩ : St)) (fun s => VC15_k1 m K s) (fun atv h => ?_) (fun rest1 => ?_)
      · have h : VC15_k1 m K atv := h
        unfold VC15_k1 at h
        refine thenQ_n ?_
        refine aw_seq ?_
        refine aw_region ?_
        refine awl_runp 4 [41, 43, 44] [] (ob := (True ∧ True ∧ True ∧ True ∧ True)) (st' := (⟨46, [(41, [], .v (.c (.p (.int .i64) atv))), (43, [], .v (.c (.p (.int .u32) m.2.2.2.2))), (44, [], .v (.c (.p (.int .i64) atv)))], []⟩ : St)) (by kernel_rfl) ⟨trivial, trivial, trivial, trivial, trivial⟩ ?_
        refine awl_callk (p := []) (l := [toV1 (.int .u32) m.2.2.2.2, toV1 (.int .i64) atv]) (cl := []) false [.d (.int .u32), .d (.int .i64)] [41, 45] [] (fun (ret45v : Bool) => K (atv, ret45v, (0 : Int))) (fun ret45v => [toV1 .bool ret45v]) (fun ret45v => (⟨46, [(41, [], .v (.c (.p (.int .i64) atv))), (45, [], .v (.c (.p .bool ret45v)))], []⟩ : St)) (by kernel_rfl) rfl (by kernel_rfl) rfl (by kernel_rfl) Try.call42 (by kernel_rfl) (fun ret45v => by kernel_rfl) (fun e => by cases e) (fun hg => link42 m.2.2.2.2 atv _ h) (fun hg => noF hg) (fun ret45v h => ?_)
        have h : K (atv, ret45v, (0 : Int)) := h
        refine awl_runp 3 [4, 5, 6] [] (ob := (True ∧ True ∧ True ∧ True)) (st' := (⟨46, [(4, [], .v (.c (.p (.int .i64) atv))), (5, [], .v (.c (.p .bool ret45v))), (6, [], .v (.c (.p (.int .i64) (0 : Int))))], []⟩ : St)) (by kernel_rfl) ⟨trivial, trivial, trivial, trivial⟩ ?_
        refine awl_nil ?_
        refine thenQ_n ?_
        refine aw_ret ?_
        exact retQ_r (σ := Int × Bool × Int) (R := (fun y => [toV1 (.int .i64) y.1, toV1 .bool y.2.1, toV1 (.int .i64) y.2.2])) (ob := (True ∧ True ∧ True ∧ True)) (atv, ret45v, (0 : Int)) (by kernel_rfl) ⟨trivial, trivial, trivial, trivial⟩ h
      · refine aw_block ?_
        refine aw_loop (σ := Int × Int) (fun s => (⟨46, [(2, [], .v (.c (.ptr 2 0))), (9, [], .v (.c (.p (.int .i64) s.1))), (26, [], .v (.c (.p (.sl (.int .i64)) w))), (27, [], .v (.c (.p (.int .i64) (w.length : Int)))), (28, [], .v (.c (.p (.int .i64) s.2)))], [(2, [], .box [.p (.int .i64) m.1, .p (.int .i64) m.2.1, .p (.sl (.sl (.int .i64))) m.2.2.1, .p (.int .i64) m.2.2.2.1, .p (.int .u32) m.2.2.2.2])]⟩ : St)) (fun s X => VC15_l1 m w K s.1 s.2 X) (s0 := (m.2.2.2.1, (0 : Int))) (fun s X1 h => ?_) h
        obtain ⟨atv, v28⟩ := s
        have h : VC15_l1 m w K atv v28 X1 := h
        unfold VC15_l1 at h
        refine aw_seq ?_
        refine aw_region ?_
        refine awl_runp 1 [2, 9, 26, 27, 28, 29] [2] (ob := (True ∧ True)) (st' := (⟨46, [(2, [], .v (.c (.ptr 2 0))), (9, [], .v (.c (.p (.int .i64) atv))), (26, [], .v (.c (.p (.sl (.int .i64)) w))), (27, [], .v (.c (.p (.int .i64) (w.length : Int)))), (28, [], .v (.c (.p (.int .i64) v28))), (29, [], .v (.c (.p .bool (decide (v28 < (w.length : Int))))))], [(2, [], .box [.p (.int .i64) m.1, .p (.int .i64) m.2.1, .p (.sl (.sl (.int .i64))) m.2.2.1, .p (.int .i64) m.2.2.2.1, .p (.int .u32) m.2.2.2.2])]⟩ : St)) (by kernel_rfl) ⟨trivial, trivial⟩ ?_
        refine awl_nil ?_
        refine thenQ_n ?_
        refine aw_seq ?_
        refine aw_cond (b := (decide (v28 < (w.length : Int)))) (by kernel_rfl) (fun hb => ?_) (fun hb => ?_)
        · have h := h.1 hb
          refine aw_skip ?_
          refine thenQ_n ?_
          refine aw_seq ?_
          refine aw_block ?_
          refine aw_seq ?_
          refine aw_region ?_
          obtain ⟨o1, h⟩ := h
          refine awl_runp 3 [2, 9, 11, 26, 27, 28] [2] (ob := (inIdx v28 w.length ∧ True ∧ True ∧ True)) (st' := (⟨46, [(2, [], .v (.c (.ptr 2 0))), (9, [], .v (.c (.p (.int .i64) atv))), (11, [], .v (.c (.p (.int .i64) (w.getD (v28).toNat (0 : Int))))), (26, [], .v (.c (.p (.sl (.int .i64)) w))), (27, [], .v (.c (.p (.int .i64) (w.length : Int)))), (28, [], .v (.c (.p (.int .i64) v28)))], [(2, [], .box [.p (.int .i64) m.1, .p (.int .i64) m.2.1, .p (.sl (.sl (.int .i64))) m.2.2.1, .p (.int .i64) m.2.2.2.1, .p (.int .u32) m.2.2.2.2])]⟩ : St)) (by kernel_rfl) ⟨o1, trivial, trivial, trivial⟩ ?_
          refine awl_nil ?_
          refine thenQ_n ?_
          refine aw_region ?_
          obtain ⟨o1, o2, h⟩ := h
          refine awl_runp 9 [2, 9, 26, 27, 28] [2] (ob := (True ∧ True ∧ True ∧ inIdx atv m.2.2.1.length ∧ True ∧ True ∧ inIdx (w.getD (v28).toNat (0 : Int)) (m.2.2.1.getD (atv).toNat ([] : (List Int))).length ∧ True ∧ True ∧ True)) (st' := (⟨46, [(2, [], .v (.c (.ptr 2 0))), (9, [], .v (.c (.p (.int .i64) ((m.2.2.1.getD (atv).toNat ([] : (List Int))).getD ((w.getD (v28).toNat (0 : Int))).toNat (0 : Int))))), (26, [], .v (.c (.p (.sl (.int .i64)) w))), (27, [], .v (.c (.p (.int .i64) (w.length : Int)))), (28, [], .v (.c (.p (.int .i64) v28)))], [(2, [], .box [.p (.int .i64) m.1, .p (.int .i64) m.2.1, .p (.sl (.sl (.int .i64))) m.2.2.1, .p (.int .i64) m.2.2.2.1, .p (.int .u32) m.2.2.2.2])]⟩ : St)) (by kernel_rfl) ⟨trivial, trivial, trivial, o1, trivial, trivial, o2, trivial, trivial, trivial⟩ ?_
          refine awl_nil ?_
          refine blockQ_n ?_
          refine thenQ_n ?_
          refine aw_region ?_
          obtain ⟨o1, h⟩ := h
          refine awl_runp 2 [2, 9, 26, 27, 28] [2] (ob := (InR (v28 + (1 : Int)) ∧ True ∧ True)) (st' := (⟨46, [(2, [], .v (.c (.ptr 2 0))), (9, [], .v (.c (.p (.int .i64) ((m.2.2.1.getD (atv).toNat ([] : (List Int))).getD ((w.getD (v28).toNat (0 : Int))).toNat (0 : Int))))), (26, [], .v (.c (.p (.sl (.int .i64)) w))), (27, [], .v (.c (.p (.int .i64) (w.length : Int)))), (28, [], .v (.c (.p (.int .i64) (v28 + (1 : Int)))))], [(2, [], .box [.p (.int .i64) m.1, .p (.int .i64) m.2.1, .p (.sl (.sl (.int .i64))) m.2.2.1, .p (.int .i64) m.2.2.2.1, .p (.int .u32) m.2.2.2.2])]⟩ : St)) (by kernel_rfl) ⟨o1, trivial, trivial⟩ ?_
          refine awl_nil ?_
          exact thenQ_n ⟨(((m.2.2.1.getD (atv).toNat ([] : (List Int))).getD ((w.getD (v28).toNat (0 : Int))).toNat (0 : Int)), (v28 + (1 : Int))), rfl, h⟩
        · have h := h.2 hb
          refine aw_conv [.prune [2, 9] [2]] (st' := (⟨46, [(2, [], .v (.c (.ptr 2 0))), (9, [], .v (.c (.p (.int .i64) atv)))], [(2, [], .box [.p (.int .i64) m.1, .p (.int .i64) m.2.1, .p (.sl (.sl (.int .i64))) m.2.2.1, .p (.int .i64) m.2.2.2.1, .p (.int .u32) m.2.2.2.2])]⟩ : St)) (by kernel_rfl) ?_
          refine aw_exit ?_
          refine thenQ_x ?_
          refine thenQ_x ?_
          refine blockQ_hit ?_
          exact rest1 atv h

-- coppicer/coppicerkeep.NetSure
def VC7 (n : (Int × (Int × ((List (Int × (Int × Int))) × (Int × Int))))) (w : (List Int)) (K : Bool → Prop) : Prop :=
  VC20 n w (fun (ret16v : Int × Bool × Int) => VC24 n (fun (ret22v : (Int × (Int × ((List (List Int)) × (Int × Int)))) × Int) => VC21 n w (fun (ret27v : Bool) => (((!ret27v) = true → K (!decide (ret16v.2.2 = (0 : Int)))) ∧ ((!ret27v) = false → (((!decide (ret16v.2.2 = (0 : Int))) = true → K false) ∧ ((!decide (ret16v.2.2 = (0 : Int))) = false → (((!decide (ret22v.2 = (0 : Int))) = true → K ((decide (ret22v.2 = (1 : Int))) && (decide (ret22v.1.1 = (0 : Int))))) ∧ ((!decide (ret22v.2 = (0 : Int))) = false → VC15 ret22v.1 w (fun (ret45v : Int × Bool × Int) => K ((decide (ret45v.2.2 = (0 : Int))) && (ret16v.2.1 == ret45v.2.1))))))))))))

set_option maxHeartbeats 4000000 in
theorem link7 (n : (Int × (Int × ((List (Int × (Int × Int))) × (Int × Int))))) (w : (List Int)) (K : Bool → Prop) (h : VC7 n w K) : ACalls Try.prog 7 [toV1 (.pr (.int .i64) (.pr (.int .i64) (.pr (.sl (.pr (.int .i64) (.pr (.int .i64) (.int .i64)))) (.pr (.int .u32) (.int .u32))))) n, toV1 (.sl (.int .i64)) w] (fun res => ∃ y, res = (fun y => [toV1 .bool y]) y ∧ K y) := by
  refine acalls_of_aw [.bool] [.t 4] Try.func7 rfl rfl rfl ?_
  unfold VC7 at h
  refine aw_seq ?_
  refine aw_region ?_
  refine awl_runp 2 [1, 2] [2] (ob := (True ∧ True ∧ True)) (st' := (⟨56, [(1, [], .v (.c (.p (.sl (.int .i64)) w))), (2, [], .v (.c (.ptr 2 0)))], [(2, [], .box [.p (.int .i64) n.1, .p (.int .i64) n.2.1, .p (.sl (.pr (.int .i64) (.pr (.int .i64) (.int .i64)))) n.2.2.1, .p (.int .u32) n.2.2.2.1, .p (.int .u32) n.2.2.2.2])]⟩ : St)) (by kernel_rfl) ⟨trivial, trivial, trivial⟩ ?_
  refine awl_nil ?_
  refine thenQ_n ?_
  refine aw_seq ?_
  refine aw_region ?_
  refine awl_runp 2 [1, 2, 14, 15] [2] (ob := (True ∧ True ∧ True)) (st' := (⟨56, [(1, [], .v (.c (.p (.sl (.int .i64)) w))), (2, [], .v (.c (.ptr 2 0))), (14, [], .v (.agg [.p (.int .i64) n.1, .p (.int .i64) n.2.1, .p (.sl (.pr (.int .i64) (.pr (.int .i64) (.int .i64)))) n.2.2.1, .p (.int .u32) n.2.2.2.1, .p (.int .u32) n.2.2.2.2])), (15, [], .v (.c (.p (.sl (.int .i64)) w)))], [(2, [], .box [.p (.int .i64) n.1, .p (.int .i64) n.2.1, .p (.sl (.pr (.int .i64) (.pr (.int .i64) (.int .i64)))) n.2.2.1, .p (.int .u32) n.2.2.2.1, .p (.int .u32) n.2.2.2.2])]⟩ : St)) (by kernel_rfl) ⟨trivial, trivial, trivial⟩ ?_
  refine awl_callk (p := []) (l := [toV1 (.pr (.int .i64) (.pr (.int .i64) (.pr (.sl (.pr (.int .i64) (.pr (.int .i64) (.int .i64)))) (.pr (.int .u32) (.int .u32))))) n, toV1 (.sl (.int .i64)) w]) (cl := []) false [.d (.pr (.int .i64) (.pr (.int .i64) (.pr (.sl (.pr (.int .i64) (.pr (.int .i64) (.int .i64)))) (.pr (.int .u32) (.int .u32))))), .d (.sl (.int .i64))] [1, 2, 16] [2] (fun (ret16v : Int × Bool × Int) => VC24 n (fun (ret22v : (Int × (Int × ((List (List Int)) × (Int × Int)))) × Int) => VC21 n w (fun (ret27v : Bool) => (((!ret27v) = true → K (!decide (ret16v.2.2 = (0 : Int)))) ∧ ((!ret27v) = false → (((!decide (ret16v.2.2 = (0 : Int))) = true → K false) ∧ ((!decide (ret16v.2.2 = (0 : Int))) = false → (((!decide (ret22v.2 = (0 : Int))) = true → K ((decide (ret22v.2 = (1 : Int))) && (decide (ret22v.1.1 = (0 : Int))))) ∧ ((!decide (ret22v.2 = (0 : Int))) = false → VC15 ret22v.1 w (fun (ret45v : Int × Bool × Int) => K ((decide (ret45v.2.2 = (0 : Int))) && (ret16v.2.1 == ret45v.2.1)))))))))))) (fun ret16v => [toV1 (.int .u32) ret16v.1, toV1 .bool ret16v.2.1, toV1 (.int .i64) ret16v.2.2]) (fun ret16v => (⟨56, [(1, [], .v (.c (.p (.sl (.int .i64)) w))), (2, [], .v (.c (.ptr 2 0))), (16, [], .tup [.c (.p (.int .u32) ret16v.1), .c (.p .bool ret16v.2.1), .c (.p (.int .i64) ret16v.2.2)])], [(2, [], .box [.p (.int .i64) n.1, .p (.int .i64) n.2.1, .p (.sl (.pr (.int .i64) (.pr (.int .i64) (.int .i64)))) n.2.2.1, .p (.int .u32) n.2.2.2.1, .p (.int .u32) n.2.2.2.2])]⟩ : St)) (by kernel_rfl) rfl (by kernel_rfl) rfl (by kernel_rfl) Try.call20 (by kernel_rfl) (fun ret16v => by kernel_rfl) (fun e => by cases e) (fun hg => link20 n w _ h) (fun hg => noF hg) (fun ret16v h => ?_)
  have h : VC24 n (fun (ret22v : (Int × (Int × ((List (List Int)) × (Int × Int)))) × Int) => VC21 n w (fun (ret27v : Bool) => (((!ret27v) = true → K (!decide (ret16v.2.2 = (0 : Int)))) ∧ ((!ret27v) = false → (((!decide (ret16v.2.2 = (0 : Int))) = true → K false) ∧ ((!decide (ret16v.2.2 = (0 : Int))) = false → (((!decide (ret22v.2 = (0 : Int))) = true → K ((decide (ret22v.2 = (1 : Int))) && (decide (ret22v.1.1 = (0 : Int))))) ∧ ((!decide (ret22v.2 = (0 : Int))) = false → VC15 ret22v.1 w (fun (ret45v : Int × Bool × Int) => K ((decide (ret45v.2.2 = (0 : Int))) && (ret16v.2.1 == ret45v.2.1))))))))))) := h
  refine awl_runp 7 [1, 2, 6, 7] [2] (ob := (True ∧ True ∧ True ∧ True ∧ True ∧ True ∧ True ∧ True)) (st' := (⟨56, [(1, [], .v (.c (.p (.sl (.int .i64)) w))), (2, [], .v (.c (.ptr 2 0))), (6, [], .v (.c (.p .bool ret16v.2.1))), (7, [], .v (.c (.p (.int .i64) ret16v.2.2)))], [(2, [], .box [.p (.int .i64) n.1, .p (.int .i64) n.2.1, .p (.sl (.pr (.int .i64) (.pr (.int .i64) (.int .i64)))) n.2.2.1, .p (.int .u32) n.2.2.2.1, .p (.int .u32) n.2.2.2.2])]⟩ : St)) (by kernel_rfl) ⟨trivial, trivial, trivial, trivial, trivial, trivial, trivial, trivial⟩ ?_
  refine awl_nil ?_
  refine thenQ_n ?_
  refine aw_seq ?_
  refine aw_region ?_
  refine awl_runp 1 [1, 2, 6, 7, 21] [2] (ob := (True ∧ True)) (st' := (⟨56, [(1, [], .v (.c (.p (.sl (.int .i64)) w))), (2, [], .v (.c (.ptr 2 0))), (6, [], .v (.c (.p .bool ret16v.2.1))), (7, [], .v (.c (.p (.int .i64) ret16v.2.2))), (21, [], .v (.agg [.p (.int .i64) n.1, .p (.int .i64) n.2.1, .p (.sl (.pr (.int .i64) (.pr (.int .i64) (.int .i64)))) n.2.2.1, .p (.int .u32) n.2.2.2.1, .p (.int .u32) n.2.2.2.2]))], [(2, [], .box [.p (.int .i64) n.1, .p (.int .i64) n.2.1, .p (.sl (.pr (.int .i64) (.pr (.int .i64) (.int .i64)))) n.2.2.1, .p (.int .u32) n.2.2.2.1, .p (.int .u32) n.2.2.2.2])]⟩ : St)) (by kernel_rfl) ⟨trivial, trivial⟩ ?_
  refine awl_callk (p := []) (l := [toV1 (.pr (.int .i64) (.pr (.int .i64) (.pr (.sl (.pr (.int .i64) (.pr (.int .i64) (.int .i64)))) (.pr (.int .u32) (.int .u32))))) n]) (cl := []) false [.d (.pr (.int .i64) (.pr (.int .i64) (.pr (.sl (.pr (.int .i64) (.pr (.int .i64) (.int .i64)))) (.pr (.int .u32) (.int .u32)))))] [1, 2, 6, 7, 22] [2] (fun (ret22v : (Int × (Int × ((List (List Int)) × (Int × Int)))) × Int) => VC21 n w (fun (ret27v : Bool) => (((!ret27v) = true → K (!decide (ret16v.2.2 = (0 : Int)))) ∧ ((!ret27v) = false → (((!decide (ret16v.2.2 = (0 : Int))) = true → K false) ∧ ((!decide (ret16v.2.2 = (0 : Int))) = false → (((!decide (ret22v.2 = (0 : Int))) = true → K ((decide (ret22v.2 = (1 : Int))) && (decide (ret22v.1.1 = (0 : Int))))) ∧ ((!decide (ret22v.2 = (0 : Int))) = false → VC15 ret22v.1 w (fun (ret45v : Int × Bool × Int) => K ((decide (ret45v.2.2 = (0 : Int))) && (ret16v.2.1 == ret45v.2.1))))))))))) (fun ret22v => [toV1 (.pr (.int .i64) (.pr (.int .i64) (.pr (.sl (.sl (.int .i64))) (.pr (.int .i64) (.int .u32))))) ret22v.1, toV1 (.int .i64) ret22v.2]) (fun ret22v => (⟨56, [(1, [], .v (.c (.p (.sl (.int .i64)) w))), (2, [], .v (.c (.ptr 2 0))), (6, [], .v (.c (.p .bool ret16v.2.1))), (7, [], .v (.c (.p (.int .i64) ret16v.2.2))), (22, [], .tup [.agg [.p (.int .i64) ret22v.1.1, .p (.int .i64) ret22v.1.2.1, .p (.sl (.sl (.int .i64))) ret22v.1.2.2.1, .p (.int .i64) ret22v.1.2.2.2.1, .p (.int .u32) ret22v.1.2.2.2.2], .c (.p (.int .i64) ret22v.2)])], [(2, [], .box [.p (.int .i64) n.1, .p (.int .i64) n.2.1, .p (.sl (.pr (.int .i64) (.pr (.int .i64) (.int .i64)))) n.2.2.1, .p (.int .u32) n.2.2.2.1, .p (.int .u32) n.2.2.2.2])]⟩ : St)) (by kernel_rfl) rfl (by kernel_rfl) rfl (by kernel_rfl) Try.call24 (by kernel_rfl) (fun ret22v => by kernel_rfl) (fun e => by cases e) (fun hg => link24 n _ h) (fun hg => noF hg) (fun ret22v h => ?_)
  have h : VC21 n w (fun (ret27v : Bool) => (((!ret27v) = true → K (!decide (ret16v.2.2 = (0 : Int)))) ∧ ((!ret27v) = false → (((!decide (ret16v.2.2 = (0 : Int))) = true → K false) ∧ ((!decide (ret16v.2.2 = (0 : Int))) = false → (((!decide (ret22v.2 = (0 : Int))) = true → K ((decide (ret22v.2 = (1 : Int))) && (decide (ret22v.1.1 = (0 : Int))))) ∧ ((!decide (ret22v.2 = (0 : Int))) = false → VC15 ret22v.1 w (fun (ret45v : Int × Bool × Int) => K ((decide (ret45v.2.2 = (0 : Int))) && (ret16v.2.1 == ret45v.2.1)))))))))) := h
  refine awl_runp 6 [1, 2, 6, 7, 8, 9] [2, 8] (ob := (True ∧ True ∧ True ∧ True ∧ True ∧ True ∧ True)) (st' := (⟨56, [(1, [], .v (.c (.p (.sl (.int .i64)) w))), (2, [], .v (.c (.ptr 2 0))), (6, [], .v (.c (.p .bool ret16v.2.1))), (7, [], .v (.c (.p (.int .i64) ret16v.2.2))), (8, [], .v (.c (.ptr 8 0))), (9, [], .v (.c (.p (.int .i64) ret22v.2)))], [(2, [], .box [.p (.int .i64) n.1, .p (.int .i64) n.2.1, .p (.sl (.pr (.int .i64) (.pr (.int .i64) (.int .i64)))) n.2.2.1, .p (.int .u32) n.2.2.2.1, .p (.int .u32) n.2.2.2.2]), (8, [], .box [.p (.int .i64) ret22v.1.1, .p (.int .i64) ret22v.1.2.1, .p (.sl (.sl (.int .i64))) ret22v.1.2.2.1, .p (.int .i64) ret22v.1.2.2.2.1, .p (.int .u32) ret22v.1.2.2.2.2])]⟩ : St)) (by kernel_rfl) ⟨trivial, trivial, trivial, trivial, trivial, trivial, trivial⟩ ?_
  refine awl_nil ?_
  refine thenQ_n ?_
  refine aw_seq ?_
  refine aw_seq ?_
  refine aw_region ?_
  refine awl_runp 2 [1, 6, 7, 8, 9, 25, 26] [8] (ob := (True ∧ True ∧ True)) (st' := (⟨56, [(1, [], .v (.c (.p (.sl (.int .i64)) w))), (6, [], .v (.c (.p .bool ret16v.2.1))), (7, [], .v (.c (.p (.int .i64) ret16v.2.2))), (8, [], .v (.c (.ptr 8 0))), (9, [], .v (.c (.p (.int .i64) ret22v.2))), (25, [], .v (.agg [.p (.int .i64) n.1, .p (.int .i64) n.2.1, .p (.sl (.pr (.int .i64) (.pr (.int .i64) (.int .i64)))) n.2.2.1, .p (.int .u32) n.2.2.2.1, .p (.int .u32) n.2.2.2.2])), (26, [], .v (.c (.p (.sl (.int .i64)) w)))], [(8, [], .box [.p (.int .i64) ret22v.1.1, .p (.int .i64) ret22v.1.2.1, .p (.sl (.sl (.int .i64))) ret22v.1.2.2.1, .p (.int .i64) ret22v.1.2.2.2.1, .p (.int .u32) ret22v.1.2.2.2.2])]⟩ : St)) (by kernel_rfl) ⟨trivial, trivial, trivial⟩ ?_
  refine awl_callk (p := []) (l := [toV1 (.pr (.int .i64) (.pr (.int .i64) (.pr (.sl (.pr (.int .i64) (.pr (.int .i64) (.int .i64)))) (.pr (.int .u32) (.int .u32))))) n, toV1 (.sl (.int .i64)) w]) (cl := []) false [.d (.pr (.int .i64) (.pr (.int .i64) (.pr (.sl (.pr (.int .i64) (.pr (.int .i64) (.int .i64)))) (.pr (.int .u32) (.int .u32))))), .d (.sl (.int .i64))] [1, 6, 7, 8, 9, 27] [8] (fun (ret27v : Bool) => (((!ret27v) = true → K (!decide (ret16v.2.2 = (0 : Int)))) ∧ ((!ret27v) = false → (((!decide (ret16v.2.2 = (0 : Int))) = true → K false) ∧ ((!decide (ret16v.2.2 = (0 : Int))) = false → (((!decide (ret22v.2 = (0 : Int))) = true → K ((decide (ret22v.2 = (1 : Int))) && (decide (ret22v.1.1 = (0 : Int))))) ∧ ((!decide (ret22v.2 = (0 : Int))) = false → VC15 ret22v.1 w (fun (ret45v : Int × Bool × Int) => K ((decide (ret45v.2.2 = (0 : Int))) && (ret16v.2.1 == ret45v.2.1)))))))))) (fun ret27v => [toV1 .bool ret27v]) (fun ret27v => (⟨56, [(1, [], .v (.c (.p (.sl (.int .i64)) w))), (6, [], .v (.c (.p .bool ret16v.2.1))), (7, [], .v (.c (.p (.int .i64) ret16v.2.2))), (8, [], .v (.c (.ptr 8 0))), (9, [], .v (.c (.p (.int .i64) ret22v.2))), (27, [], .v (.c (.p .bool ret27v)))], [(8, [], .box [.p (.int .i64) ret22v.1.1, .p (.int .i64) ret22v.1.2.1, .p (.sl (.sl (.int .i64))) ret22v.1.2.2.1, .p (.int .i64) ret22v.1.2.2.2.1, .p (.int .u32) ret22v.1.2.2.2.2])]⟩ : St)) (by kernel_rfl) rfl (by kernel_rfl) rfl (by kernel_rfl) Try.call21 (by kernel_rfl) (fun ret27v => by kernel_rfl) (fun e => by cases e) (fun hg => link21 n w _ h) (fun hg => noF hg) (fun ret27v h => ?_)
  have h : (((!ret27v) = true → K (!decide (ret16v.2.2 = (0 : Int)))) ∧ ((!ret27v) = false → (((!decide (ret16v.2.2 = (0 : Int))) = true → K false) ∧ ((!decide (ret16v.2.2 = (0 : Int))) = false → (((!decide (ret22v.2 = (0 : Int))) = true → K ((decide (ret22v.2 = (1 : Int))) && (decide (ret22v.1.1 = (0 : Int))))) ∧ ((!decide (ret22v.2 = (0 : Int))) = false → VC15 ret22v.1 w (fun (ret45v : Int × Bool × Int) => K ((decide (ret45v.2.2 = (0 : Int))) && (ret16v.2.1 == ret45v.2.1))))))))) := h
  refine awl_runp 1 [1, 6, 7, 8, 9, 28] [8] (ob := (True ∧ True)) (st' := (⟨56, [(1, [], .v (.c (.p (.sl (.int .i64)) w))), (6, [], .v (.c (.p .bool ret16v.2.1))), (7, [], .v (.c (.p (.int .i64) ret16v.2.2))), (8, [], .v (.c (.ptr 8 0))), (9, [], .v (.c (.p (.int .i64) ret22v.2))), (28, [], .v (.c (.p .bool (!ret27v))))], [(8, [], .box [.p (.int .i64) ret22v.1.1, .p (.int .i64) ret22v.1.2.1, .p (.sl (.sl (.int .i64))) ret22v.1.2.2.1, .p (.int .i64) ret22v.1.2.2.2.1, .p (.int .u32) ret22v.1.2.2.2.2])]⟩ : St)) (by kernel_rfl) ⟨trivial, trivial⟩ ?_
  refine awl_nil ?_
  refine thenQ_n ?_
  refine aw_cond (b := (!ret27v)) (by kernel_rfl) (fun hb => ?_) (fun hb => ?_)
  · have h := h.1 hb
    refine aw_seq ?_
    refine aw_region ?_
    refine awl_runp 3 [4] [] (ob := (True ∧ True ∧ True ∧ True)) (st' := (⟨56, [(4, [], .v (.c (.p .bool (!decide (ret16v.2.2 = (0 : Int))))))], []⟩ : St)) (by kernel_rfl) ⟨trivial, trivial, trivial, trivial⟩ ?_
    refine awl_nil ?_
    refine thenQ_n ?_
    refine aw_ret ?_
    refine thenQ_r ?_
    exact retQ_r (σ := Bool) (R := (fun y => [toV1 .bool y])) (ob := (True ∧ True)) (!decide (ret16v.2.2 = (0 : Int))) (by kernel_rfl) ⟨trivial, trivial⟩ h
  · have h := h.2 hb
    refine aw_skip ?_
    refine thenQ_n ?_
    refine aw_seq ?_
    refine aw_seq ?_
    refine aw_region ?_
    refine awl_runp 2 [1, 6, 8, 9, 32] [8] (ob := (True ∧ True ∧ True)) (st' := (⟨56, [(1, [], .v (.c (.p (.sl (.int .i64)) w))), (6, [], .v (.c (.p .bool ret16v.2.1))), (8, [], .v (.c (.ptr 8 0))), (9, [], .v (.c (.p (.int .i64) ret22v.2))), (32, [], .v (.c (.p .bool (!decide (ret16v.2.2 = (0 : Int))))))], [(8, [], .box [.p (.int .i64) ret22v.1.1, .p (.int .i64) ret22v.1.2.1, .p (.sl (.sl (.int .i64))) ret22v.1.2.2.1, .p (.int .i64) ret22v.1.2.2.2.1, .p (.int .u32) ret22v.1.2.2.2.2])]⟩ : St)) (by kernel_rfl) ⟨trivial, trivial, trivial⟩ ?_
    refine awl_nil ?_
    refine thenQ_n ?_
    refine aw_cond (b := (!decide (ret16v.2.2 = (0 : Int)))) (by kernel_rfl) (fun hb => ?_) (fun hb => ?_)
    · have h := h.1 hb
      refine aw_seq ?_
      refine aw_region ?_
      refine awl_runp 1 [4] [] (ob := (True ∧ True)) (st' := (⟨56, [(4, [], .v (.c (.p .bool false)))], []⟩ : St)) (by kernel_rfl) ⟨trivial, trivial⟩ ?_
      refine awl_nil ?_
      refine thenQ_n ?_
      refine aw_ret ?_
      refine thenQ_r ?_
      exact retQ_r (σ := Bool) (R := (fun y => [toV1 .bool y])) (ob := (True ∧ True)) false (by kernel_rfl) ⟨trivial, trivial⟩ h
    · have h := h.2 hb
      refine aw_skip ?_
      refine thenQ_n ?_
      refine aw_seq ?_
      refine aw_seq ?_
      refine aw_region ?_
      refine awl_runp 2 [1, 6, 8, 9, 34] [8] (ob := (True ∧ True ∧ True)) (st' := (⟨56, [(1, [], .v (.c (.p (.sl (.int .i64)) w))), (6, [], .v (.c (.p .bool ret16v.2.1))), (8, [], .v (.c (.ptr 8 0))), (9, [], .v (.c (.p (.int .i64) ret22v.2))), (34, [], .v (.c (.p .bool (!decide (ret22v.2 = (0 : Int))))))], [(8, [], .box [.p (.int .i64) ret22v.1.1, .p (.int .i64) ret22v.1.2.1, .p (.sl (.sl (.int .i64))) ret22v.1.2.2.1, .p (.int .i64) ret22v.1.2.2.2.1, .p (.int .u32) ret22v.1.2.2.2.2])]⟩ : St)) (by kernel_rfl) ⟨trivial, trivial, trivial⟩ ?_
      refine awl_nil ?_
      refine thenQ_n ?_
      refine aw_cond (b := (!decide (ret22v.2 = (0 : Int)))) (by kernel_rfl) (fun hb => ?_) (fun hb => ?_)
      · have h := h.1 hb
        refine aw_seq ?_
        refine aw_region ?_
        refine awl_runp 8 [4] [] (ob := (True ∧ True ∧ True ∧ ((decide (ret22v.2 = (1 : Int))) = true → True) ∧ ((decide (ret22v.2 = (1 : Int))) = true → True) ∧ ((decide (ret22v.2 = (1 : Int))) = true → True) ∧ True ∧ True ∧ True)) (st' := (⟨56, [(4, [], .v (.c (.p .bool ((decide (ret22v.2 = (1 : Int))) && (decide (ret22v.1.1 = (0 : Int)))))))], []⟩ : St)) (by kernel_rfl) ⟨trivial, trivial, trivial, (fun _ => trivial), (fun _ => trivial), (fun _ => trivial), trivial, trivial, trivial⟩ ?_
        refine awl_nil ?_
        refine thenQ_n ?_
        refine aw_ret ?_
        refine thenQ_r ?_
        exact retQ_r (σ := Bool) (R := (fun y => [toV1 .bool y])) (ob := (True ∧ True)) ((decide (ret22v.2 = (1 : Int))) && (decide (ret22v.1.1 = (0 : Int)))) (by kernel_rfl) ⟨trivial, trivial⟩ h
      · have h := h.2 hb
        refine aw_skip ?_
        refine thenQ_n ?_
        refine aw_seq ?_
        refine aw_region ?_
        refine awl_runp 2 [6, 43, 44] [] (ob := (True ∧ True ∧ True)) (st' := (⟨56, [(6, [], .v (.c (.p .bool ret16v.2.1))), (43, [], .v (.agg [.p (.int .i64) ret22v.1.1, .p (.int .i64) ret22v.1.2.1, .p (.sl (.sl (.int .i64))) ret22v.1.2.2.1, .p (.int .i64) ret22v.1.2.2.2.1, .p (.int .u32) ret22v.1.2.2.2.2])), (44, [], .v (.c (.p (.sl (.int .i64)) w)))], []⟩ : St)) (by kernel_rfl) ⟨trivial, trivial, trivial⟩ ?_
        refine awl_callk (p := []) (l := [toV1 (.pr (.int .i64) (.pr (.int .i64) (.pr (.sl (.sl (.int .i64))) (.pr (.int .i64) (.int .u32))))) ret22v.1, toV1 (.sl (.int .i64)) w]) (cl := []) false [.d (.pr (.int .i64) (.pr (.int .i64) (.pr (.sl (.sl (.int .i64))) (.pr (.int .i64) (.int .u32))))), .d (.sl (.int .i64))] [6, 45] [] (fun (ret45v : Int × Bool × Int) => K ((decide (ret45v.2.2 = (0 : Int))) && (ret16v.2.1 == ret45v.2.1))) (fun ret45v => [toV1 (.int .i64) ret45v.1, toV1 .bool ret45v.2.1, toV1 (.int .i64) ret45v.2.2]) (fun ret45v => (⟨56, [(6, [], .v (.c (.p .bool ret16v.2.1))), (45, [], .tup [.c (.p (.int .i64) ret45v.1), .c (.p .bool ret45v.2.1), .c (.p (.int .i64) ret45v.2.2)])], []⟩ : St)) (by kernel_rfl) rfl (by kernel_rfl) rfl (by kernel_rfl) Try.call15 (by kernel_rfl) (fun ret45v => by kernel_rfl) (fun e => by cases e) (fun hg => link15 ret22v.1 w _ h) (fun hg => noF hg) (fun ret45v h => ?_)
        have h : K ((decide (ret45v.2.2 = (0 : Int))) && (ret16v.2.1 == ret45v.2.1)) := h
        refine awl_runp 7 [6, 11, 12] [] (ob := (True ∧ True ∧ True ∧ True ∧ True ∧ True ∧ True ∧ True)) (st' := (⟨56, [(6, [], .v (.c (.p .bool ret16v.2.1))), (11, [], .v (.c (.p .bool ret45v.2.1))), (12, [], .v (.c (.p (.int .i64) ret45v.2.2)))], []⟩ : St)) (by kernel_rfl) ⟨trivial, trivial, trivial, trivial, trivial, trivial, trivial, trivial⟩ ?_
        refine awl_nil ?_
        refine thenQ_n ?_
        refine aw_seq ?_
        refine aw_region ?_
        refine awl_runp 8 [4] [] (ob := (True ∧ True ∧ True ∧ ((decide (ret45v.2.2 = (0 : Int))) = true → True) ∧ ((decide (ret45v.2.2 = (0 : Int))) = true → True) ∧ ((decide (ret45v.2.2 = (0 : Int))) = true → True) ∧ True ∧ True ∧ True)) (st' := (⟨56, [(4, [], .v (.c (.p .bool ((decide (ret45v.2.2 = (0 : Int))) && (ret16v.2.1 == ret45v.2.1)))))], []⟩ : St)) (by kernel_rfl) ⟨trivial, trivial, trivial, (fun _ => trivial), (fun _ => trivial), (fun _ => trivial), trivial, trivial, trivial⟩ ?_
        refine awl_nil ?_
        refine thenQ_n ?_
        refine aw_ret ?_
        exact retQ_r (σ := Bool) (R := (fun y => [toV1 .bool y])) (ob := (True ∧ True)) ((decide (ret45v.2.2 = (0 : Int))) && (ret16v.2.1 == ret45v.2.1)) (by kernel_rfl) ⟨trivial, trivial⟩ h

end Dec
