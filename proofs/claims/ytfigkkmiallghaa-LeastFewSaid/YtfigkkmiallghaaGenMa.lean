/-
  Printed by dec2.py: of each function its plain demand, and that the demand gives the contract.
-/
import Derived.Test.YtfigkkmiallghaaProg
import Derived.Test.YtfigkkmiallghaaDecT
set_option linter.unusedVariables false
set_option linter.unusedSimpArgs false
set_option maxRecDepth 100000
namespace Dec
open Go Go.RowKit Go.Proofs

-- coppicer/machine.within
def VC61 (n : Int) (low : Int) (high : Int) (K : Bool → Prop) : Prop :=
  K ((decide (low ≤ n)) && (decide (n ≤ high)))

set_option maxHeartbeats 4000000 in
theorem link61 (n : Int) (low : Int) (high : Int) (K : Bool → Prop) (h : VC61 n low high K) : ACalls Try.prog 61 [toV1 (.int .i64) n, toV1 (.int .i64) low, toV1 (.int .i64) high] (fun res => ∃ y, res = (fun y => [toV1 .bool y]) y ∧ K y) := by
  refine acalls_of_aw [.bool] [.t 6] Try.func61 rfl rfl rfl ?_
  unfold VC61 at h
  refine aw_seq ?_
  refine aw_region ?_
  refine awl_runp 1 [0, 1, 2] [] (ob := (True ∧ True)) (st' := (⟨15, [(0, [], .v (.c (.p (.int .i64) n))), (1, [], .v (.c (.p (.int .i64) low))), (2, [], .v (.c (.p (.int .i64) high)))], []⟩ : St)) (by kernel_rfl) ⟨trivial, trivial⟩ ?_
  refine awl_nil ?_
  refine thenQ_n ?_
  refine aw_seq ?_
  refine aw_region ?_
  refine awl_runp 9 [6] [] (ob := (True ∧ True ∧ True ∧ True ∧ ((decide (low ≤ n)) = true → True) ∧ ((decide (low ≤ n)) = true → True) ∧ ((decide (low ≤ n)) = true → True) ∧ True ∧ True ∧ True)) (st' := (⟨15, [(6, [], .v (.c (.p .bool ((decide (low ≤ n)) && (decide (n ≤ high))))))], []⟩ : St)) (by kernel_rfl) ⟨trivial, trivial, trivial, trivial, (fun _ => trivial), (fun _ => trivial), (fun _ => trivial), trivial, trivial, trivial⟩ ?_
  refine awl_nil ?_
  refine thenQ_n ?_
  refine aw_ret ?_
  exact retQ_r (σ := Bool) (R := (fun y => [toV1 .bool y])) (ob := (True ∧ True)) ((decide (low ≤ n)) && (decide (n ≤ high))) (by kernel_rfl) ⟨trivial, trivial⟩ h

-- coppicer/machine.Check$1
def VC63 (l : (List Int)) (a1 : (Int × (Int × ((List (List Int)) × (Int × Int))))) (K : Bool → Prop) : Prop :=
  K (!decide ((l.length : Int) = a1.2.1))

set_option maxHeartbeats 4000000 in
theorem link63 (l : (List Int)) (a1 : (Int × (Int × ((List (List Int)) × (Int × Int))))) (K : Bool → Prop) (h : VC63 l a1 K) : ACalls Try.prog 63 [toV1 (.sl (.int .i64)) l, .c (.ad (.pr (.int .i64) (.pr (.int .i64) (.pr (.sl (.sl (.int .i64))) (.pr (.int .i64) (.int .u32))))) a1)] (fun res => ∃ y, res = (fun y => [toV1 .bool y]) y ∧ K y) := by
  refine acalls_of_aw [.bool] [.t 3] Try.func63 rfl rfl rfl ?_
  unfold VC63 at h
  refine aw_seq ?_
  refine aw_region ?_
  refine awl_runp 1 [0, 1] [] (ob := (True ∧ True)) (st' := (⟨9, [(0, [], .v (.c (.p (.sl (.int .i64)) l))), (1, [], .v (.c (.ad (.pr (.int .i64) (.pr (.int .i64) (.pr (.sl (.sl (.int .i64))) (.pr (.int .i64) (.int .u32))))) a1)))], []⟩ : St)) (by kernel_rfl) ⟨trivial, trivial⟩ ?_
  refine awl_nil ?_
  refine thenQ_n ?_
  refine aw_seq ?_
  refine aw_region ?_
  refine awl_runp 6 [3] [] (ob := (True ∧ True ∧ True ∧ True ∧ True ∧ True ∧ True)) (st' := (⟨9, [(3, [], .v (.c (.p .bool (!decide ((l.length : Int) = a1.2.1)))))], []⟩ : St)) (by kernel_rfl) ⟨trivial, trivial, trivial, trivial, trivial, trivial, trivial⟩ ?_
  refine awl_nil ?_
  refine thenQ_n ?_
  refine aw_ret ?_
  exact retQ_r (σ := Bool) (R := (fun y => [toV1 .bool y])) (ob := (True ∧ True)) (!decide ((l.length : Int) = a1.2.1)) (by kernel_rfl) ⟨trivial, trivial⟩ h

-- slices.IndexFunc[[][]int,[]int]
def VC72_k1 (K : Int → Prop) : Prop :=
  K (-1 : Int)

def VC72_l1 (sv : (List (List Int))) (F1 : (List Int) → (Bool → Prop) → Prop) (K : Int → Prop) (v8 : Int) (X1 : Int → Prop) : Prop :=
  (((decide (v8 < (sv.length : Int))) = true → (inIdx v8 sv.length ∧ F1 (sv.getD (v8).toNat ([] : (List Int))) (fun (ret16v : Bool) => ((ret16v = true → K v8) ∧ (ret16v = false → (InR (v8 + (1 : Int)) ∧ X1 (v8 + (1 : Int)))))))) ∧ ((decide (v8 < (sv.length : Int))) = false → VC72_k1 K))

def VC72 (sv : (List (List Int))) (F1 : (List Int) → (Bool → Prop) → Prop) (K : Int → Prop) : Prop :=
  Loop (σ := Int) (fun s X => VC72_l1 sv F1 K s X) (0 : Int)

set_option maxHeartbeats 4000000 in
theorem link72 (sv : (List (List Int))) (fv1 : FuncId) (cv1 : List Dat) (F1 : (List Int) → (Bool → Prop) → Prop) (hF1 : FnIs Try.prog fv1 cv1 (fun (x : (List Int)) => [toV1 (.sl (.int .i64)) x]) (fun (y : Bool) => [toV1 .bool y]) F1) (K : Int → Prop) (h : VC72 sv F1 K) : ACalls Try.prog 72 [toV1 (.sl (.sl (.int .i64))) sv, .c (.fn fv1 cv1)] (fun res => ∃ y, res = (fun y => [toV1 (.int .i64) y]) y ∧ K y) := by
  refine acalls_of_aw [(.int .i64)] [.t 4] Try.func72 rfl rfl rfl ?_
  unfold VC72 at h
  refine aw_seq ?_
  refine aw_region ?_
  refine awl_runp 1 [0, 1] [] (ob := (True ∧ True)) (st' := (⟨19, [(0, [], .v (.c (.p (.sl (.sl (.int .i64))) sv))), (1, [], .v (.c (.fn fv1 cv1)))], []⟩ : St)) (by kernel_rfl) ⟨trivial, trivial⟩ ?_
  refine awl_nil ?_
  refine thenQ_n ?_
  refine aw_seq ?_
  refine aw_seq ?_
  refine aw_region ?_
  refine awl_runp 3 [0, 1, 7, 8] [] (ob := (True ∧ True ∧ True ∧ True)) (st' := (⟨19, [(0, [], .v (.c (.p (.sl (.sl (.int .i64))) sv))), (1, [], .v (.c (.fn fv1 cv1))), (7, [], .v (.c (.p (.int .i64) (sv.length : Int)))), (8, [], .v (.c (.p (.int .i64) (0 : Int))))], []⟩ : St)) (by kernel_rfl) ⟨trivial, trivial, trivial, trivial⟩ ?_
  refine awl_nil ?_
  refine thenQ_n ?_
  refine withJoin (σ := Unit) (fun s => (⟨19, [], []⟩ : St)) (fun s => VC72_k1 K) (fun s h => ?_) (fun rest1 => ?_)
  · have h : VC72_k1 K := h
    unfold VC72_k1 at h
    refine thenQ_n ?_
    refine aw_seq ?_
    refine aw_region ?_
    refine awl_runp 1 [4] [] (ob := (True ∧ True)) (st' := (⟨19, [(4, [], .v (.c (.p (.int .i64) (-1 : Int))))], []⟩ : St)) (by kernel_rfl) ⟨trivial, trivial⟩ ?_
    refine awl_nil ?_
    refine thenQ_n ?_
    refine aw_ret ?_
    exact retQ_r (σ := Int) (R := (fun y => [toV1 (.int .i64) y])) (ob := (True ∧ True)) (-1 : Int) (by kernel_rfl) ⟨trivial, trivial⟩ h
  · refine aw_block ?_
    refine aw_loop (σ := Int) (fun s => (⟨19, [(0, [], .v (.c (.p (.sl (.sl (.int .i64))) sv))), (1, [], .v (.c (.fn fv1 cv1))), (7, [], .v (.c (.p (.int .i64) (sv.length : Int)))), (8, [], .v (.c (.p (.int .i64) s)))], []⟩ : St)) (fun s X => VC72_l1 sv F1 K s X) (s0 := (0 : Int)) (fun v8 X1 h => ?_) h
    have h : VC72_l1 sv F1 K v8 X1 := h
    unfold VC72_l1 at h
    refine aw_seq ?_
    refine aw_region ?_
    refine awl_runp 1 [0, 1, 7, 8, 9] [] (ob := (True ∧ True)) (st' := (⟨19, [(0, [], .v (.c (.p (.sl (.sl (.int .i64))) sv))), (1, [], .v (.c (.fn fv1 cv1))), (7, [], .v (.c (.p (.int .i64) (sv.length : Int)))), (8, [], .v (.c (.p (.int .i64) v8))), (9, [], .v (.c (.p .bool (decide (v8 < (sv.length : Int))))))], []⟩ : St)) (by kernel_rfl) ⟨trivial, trivial⟩ ?_
    refine awl_nil ?_
    refine thenQ_n ?_
    refine aw_seq ?_
    refine aw_cond (b := (decide (v8 < (sv.length : Int)))) (by kernel_rfl) (fun hb => ?_) (fun hb => ?_)
    · have h := h.1 hb
      refine aw_skip ?_
      refine thenQ_n ?_
      refine aw_seq ?_
      refine aw_block ?_
      refine aw_seq ?_
      refine aw_region ?_
      refine awl_runp 2 [0, 1, 5, 7, 8] [] (ob := (True ∧ True ∧ True)) (st' := (⟨19, [(0, [], .v (.c (.p (.sl (.sl (.int .i64))) sv))), (1, [], .v (.c (.fn fv1 cv1))), (5, [], .v (.c (.p (.int .i64) v8))), (7, [], .v (.c (.p (.int .i64) (sv.length : Int)))), (8, [], .v (.c (.p (.int .i64) v8)))], []⟩ : St)) (by kernel_rfl) ⟨trivial, trivial, trivial⟩ ?_
      refine awl_nil ?_
      refine thenQ_n ?_
      refine aw_seq ?_
      refine aw_region ?_
      obtain ⟨o1, h⟩ := h
      refine awl_runp 5 [0, 1, 5, 7, 8, 11, 15] [] (ob := (True ∧ True ∧ True ∧ inIdx v8 sv.length ∧ True ∧ True)) (st' := (⟨19, [(0, [], .v (.c (.p (.sl (.sl (.int .i64))) sv))), (1, [], .v (.c (.fn fv1 cv1))), (5, [], .v (.c (.p (.int .i64) v8))), (7, [], .v (.c (.p (.int .i64) (sv.length : Int)))), (8, [], .v (.c (.p (.int .i64) v8))), (11, [], .v (.c (.fn fv1 cv1))), (15, [], .v (.c (.p (.sl (.int .i64)) (sv.getD (v8).toNat ([] : (List Int))))))], []⟩ : St)) (by kernel_rfl) ⟨trivial, trivial, trivial, o1, trivial, trivial⟩ ?_
      refine awl_callk (p := []) (l := [toV1 (.sl (.int .i64)) (sv.getD (v8).toNat ([] : (List Int)))]) false [.d (.sl (.int .i64))] [0, 1, 5, 7, 8, 16] [] (fun (ret16v : Bool) => ((ret16v = true → K v8) ∧ (ret16v = false → (InR (v8 + (1 : Int)) ∧ X1 (v8 + (1 : Int)))))) (fun ret16v => [toV1 .bool ret16v]) (fun ret16v => (⟨19, [(0, [], .v (.c (.p (.sl (.sl (.int .i64))) sv))), (1, [], .v (.c (.fn fv1 cv1))), (5, [], .v (.c (.p (.int .i64) v8))), (7, [], .v (.c (.p (.int .i64) (sv.length : Int)))), (8, [], .v (.c (.p (.int .i64) v8))), (16, [], .v (.c (.p .bool ret16v)))], []⟩ : St)) (by kernel_rfl) rfl (by kernel_rfl) rfl (by kernel_rfl) hF1.1 (by kernel_rfl) (fun ret16v => by kernel_rfl) (fun e => by cases e) (fun hg => hF1.2 (sv.getD (v8).toNat ([] : (List Int))) _ h) (fun hg => noF hg) (fun ret16v h => ?_)
      have h : ((ret16v = true → K v8) ∧ (ret16v = false → (InR (v8 + (1 : Int)) ∧ X1 (v8 + (1 : Int))))) := h
      refine awl_nil ?_
      refine thenQ_n ?_
      refine aw_cond (b := ret16v) (by kernel_rfl) (fun hb => ?_) (fun hb => ?_)
      · have h := h.1 hb
        refine aw_seq ?_
        refine aw_region ?_
        refine awl_runp 2 [4] [] (ob := (True ∧ True ∧ True)) (st' := (⟨19, [(4, [], .v (.c (.p (.int .i64) v8)))], []⟩ : St)) (by kernel_rfl) ⟨trivial, trivial, trivial⟩ ?_
        refine awl_nil ?_
        refine thenQ_n ?_
        refine aw_ret ?_
        refine blockQ_r ?_
        refine thenQ_r ?_
        refine thenQ_r ?_
        refine blockQ_r ?_
        refine thenQ_r ?_
        exact retQ_r (σ := Int) (R := (fun y => [toV1 (.int .i64) y])) (ob := (True ∧ True)) v8 (by kernel_rfl) ⟨trivial, trivial⟩ h
      · have h := h.2 hb
        refine aw_skip ?_
        refine blockQ_n ?_
        refine thenQ_n ?_
        refine aw_region ?_
        obtain ⟨o1, h⟩ := h
        refine awl_runp 2 [0, 1, 7, 8] [] (ob := (InR (v8 + (1 : Int)) ∧ True ∧ True)) (st' := (⟨19, [(0, [], .v (.c (.p (.sl (.sl (.int .i64))) sv))), (1, [], .v (.c (.fn fv1 cv1))), (7, [], .v (.c (.p (.int .i64) (sv.length : Int)))), (8, [], .v (.c (.p (.int .i64) (v8 + (1 : Int)))))], []⟩ : St)) (by kernel_rfl) ⟨o1, trivial, trivial⟩ ?_
        refine awl_nil ?_
        exact thenQ_n ⟨(v8 + (1 : Int)), rfl, h⟩
    · have h := h.2 hb
      refine aw_conv [.prune [] []] (st' := (⟨19, [], []⟩ : St)) (by kernel_rfl) ?_
      refine aw_exit ?_
      refine thenQ_x ?_
      refine thenQ_x ?_
      refine blockQ_hit ?_
      exact rest1 () h

-- slices.ContainsFunc[[][]int,[]int]
def VC62 (sv : (List (List Int))) (F1 : (List Int) → (Bool → Prop) → Prop) (K : Bool → Prop) : Prop :=
  VC72 sv F1 (fun (ret7v : Int) => K (decide ((0 : Int) ≤ ret7v)))

set_option maxHeartbeats 4000000 in
theorem link62 (sv : (List (List Int))) (fv1 : FuncId) (cv1 : List Dat) (F1 : (List Int) → (Bool → Prop) → Prop) (hF1 : FnIs Try.prog fv1 cv1 (fun (x : (List Int)) => [toV1 (.sl (.int .i64)) x]) (fun (y : Bool) => [toV1 .bool y]) F1) (K : Bool → Prop) (h : VC62 sv F1 K) : ACalls Try.prog 62 [toV1 (.sl (.sl (.int .i64))) sv, .c (.fn fv1 cv1)] (fun res => ∃ y, res = (fun y => [toV1 .bool y]) y ∧ K y) := by
  refine acalls_of_aw [.bool] [.t 4] Try.func62 rfl rfl rfl ?_
  unfold VC62 at h
  refine aw_seq ?_
  refine aw_region ?_
  refine awl_runp 1 [0, 1] [] (ob := (True ∧ True)) (st' := (⟨9, [(0, [], .v (.c (.p (.sl (.sl (.int .i64))) sv))), (1, [], .v (.c (.fn fv1 cv1)))], []⟩ : St)) (by kernel_rfl) ⟨trivial, trivial⟩ ?_
  refine awl_nil ?_
  refine thenQ_n ?_
  refine aw_seq ?_
  refine aw_region ?_
  refine awl_runp 2 [5, 6] [] (ob := (True ∧ True ∧ True)) (st' := (⟨9, [(5, [], .v (.c (.p (.sl (.sl (.int .i64))) sv))), (6, [], .v (.c (.fn fv1 cv1)))], []⟩ : St)) (by kernel_rfl) ⟨trivial, trivial, trivial⟩ ?_
  refine awl_callk (p := []) (l := [toV1 (.sl (.sl (.int .i64))) sv, .c (.fn fv1 cv1)]) (cl := []) false [.d (.sl (.sl (.int .i64))), .fn] [7] [] (fun (ret7v : Int) => K (decide ((0 : Int) ≤ ret7v))) (fun ret7v => [toV1 (.int .i64) ret7v]) (fun ret7v => (⟨9, [(7, [], .v (.c (.p (.int .i64) ret7v)))], []⟩ : St)) (by kernel_rfl) rfl (by kernel_rfl) rfl (by kernel_rfl) Try.call72 (by kernel_rfl) (fun ret7v => by kernel_rfl) (fun e => by cases e) (fun hg => link72 sv fv1 cv1 F1 hF1 _ h) (fun hg => noF hg) (fun ret7v h => ?_)
  have h : K (decide ((0 : Int) ≤ ret7v)) := h
  refine awl_runp 2 [4] [] (ob := (True ∧ True ∧ True)) (st' := (⟨9, [(4, [], .v (.c (.p .bool (decide ((0 : Int) ≤ ret7v)))))], []⟩ : St)) (by kernel_rfl) ⟨trivial, trivial, trivial⟩ ?_
  refine awl_nil ?_
  refine thenQ_n ?_
  refine aw_ret ?_
  exact retQ_r (σ := Bool) (R := (fun y => [toV1 .bool y])) (ob := (True ∧ True)) (decide ((0 : Int) ≤ ret7v)) (by kernel_rfl) ⟨trivial, trivial⟩ h

-- coppicer/machine.Check$2
def VC64 (n : Int) (a1 : (Int × (Int × ((List (List Int)) × (Int × Int))))) (K : Bool → Prop) : Prop :=
  (InR (a1.1 - (1 : Int)) ∧ VC61 n (0 : Int) (a1.1 - (1 : Int)) (fun (ret8v : Bool) => K ret8v))

set_option maxHeartbeats 4000000 in
theorem link64 (n : Int) (a1 : (Int × (Int × ((List (List Int)) × (Int × Int))))) (K : Bool → Prop) (h : VC64 n a1 K) : ACalls Try.prog 64 [toV1 (.int .i64) n, .c (.ad (.pr (.int .i64) (.pr (.int .i64) (.pr (.sl (.sl (.int .i64))) (.pr (.int .i64) (.int .u32))))) a1)] (fun res => ∃ y, res = (fun y => [toV1 .bool y]) y ∧ K y) := by
  refine acalls_of_aw [.bool] [.t 3] Try.func64 rfl rfl rfl ?_
  unfold VC64 at h
  refine aw_seq ?_
  refine aw_region ?_
  refine awl_runp 1 [0, 1] [] (ob := (True ∧ True)) (st' := (⟨9, [(0, [], .v (.c (.p (.int .i64) n))), (1, [], .v (.c (.ad (.pr (.int .i64) (.pr (.int .i64) (.pr (.sl (.sl (.int .i64))) (.pr (.int .i64) (.int .u32))))) a1)))], []⟩ : St)) (by kernel_rfl) ⟨trivial, trivial⟩ ?_
  refine awl_nil ?_
  refine thenQ_n ?_
  refine aw_seq ?_
  refine aw_region ?_
  obtain ⟨o1, h⟩ := h
  refine awl_runp 4 [4, 7] [] (ob := (True ∧ True ∧ True ∧ InR (a1.1 - (1 : Int)) ∧ True)) (st' := (⟨9, [(4, [], .v (.c (.p (.int .i64) n))), (7, [], .v (.c (.p (.int .i64) (a1.1 - (1 : Int)))))], []⟩ : St)) (by kernel_rfl) ⟨trivial, trivial, trivial, o1, trivial⟩ ?_
  refine awl_callk (p := []) (l := [toV1 (.int .i64) n, toV1 (.int .i64) (0 : Int), toV1 (.int .i64) (a1.1 - (1 : Int))]) (cl := []) false [.d (.int .i64), .d (.int .i64), .d (.int .i64)] [8] [] (fun (ret8v : Bool) => K ret8v) (fun ret8v => [toV1 .bool ret8v]) (fun ret8v => (⟨9, [(8, [], .v (.c (.p .bool ret8v)))], []⟩ : St)) (by kernel_rfl) rfl (by kernel_rfl) rfl (by kernel_rfl) Try.call61 (by kernel_rfl) (fun ret8v => by kernel_rfl) (fun e => by cases e) (fun hg => link61 n (0 : Int) (a1.1 - (1 : Int)) _ h) (fun hg => noF hg) (fun ret8v h => ?_)
  have h : K ret8v := h
  refine awl_runp 1 [3] [] (ob := (True ∧ True)) (st' := (⟨9, [(3, [], .v (.c (.p .bool ret8v)))], []⟩ : St)) (by kernel_rfl) ⟨trivial, trivial⟩ ?_
  refine awl_nil ?_
  refine thenQ_n ?_
  refine aw_ret ?_
  exact retQ_r (σ := Bool) (R := (fun y => [toV1 .bool y])) (ob := (True ∧ True)) ret8v (by kernel_rfl) ⟨trivial, trivial⟩ h

-- coppicer/machine.Check
def VC40_k1 (m : (Int × (Int × ((List (List Int)) × (Int × Int))))) (K : Int → Prop) : Prop :=
  VC64 m.2.2.2.1 m (fun (ret53v : Bool) => (((!ret53v) = true → K (2 : Int)) ∧ ((!ret53v) = false → ((0 ≤ m.2.2.2.2 ∧ 0 ≤ m.1) ∧ (((!decide ((bShr .u32 m.2.2.2.2 m.1) = (0 : Int))) = true → K (4 : Int)) ∧ ((!decide ((bShr .u32 m.2.2.2.2 m.1) = (0 : Int))) = false → K (0 : Int)))))))

def VC40_k2 (v34 : Int) (X1 : Int → Prop) : Prop :=
  (InR (v34 + (1 : Int)) ∧ X1 (v34 + (1 : Int)))

def VC40_l2 (m : (Int × (Int × ((List (List Int)) × (Int × Int))))) (K : Int → Prop) (v34 : Int) (X1 : Int → Prop) (v40 : Int) (X2 : Int → Prop) : Prop :=
  (((decide (v40 < ((m.2.2.1.getD (v34).toNat ([] : (List Int))).length : Int))) = true → (inIdx v40 (m.2.2.1.getD (v34).toNat ([] : (List Int))).length ∧ VC64 ((m.2.2.1.getD (v34).toNat ([] : (List Int))).getD (v40).toNat (0 : Int)) m (fun (ret46v : Bool) => (((!ret46v) = true → K (2 : Int)) ∧ ((!ret46v) = false → (InR (v40 + (1 : Int)) ∧ X2 (v40 + (1 : Int)))))))) ∧ ((decide (v40 < ((m.2.2.1.getD (v34).toNat ([] : (List Int))).length : Int))) = false → VC40_k2 v34 X1))

def VC40_l1 (m : (Int × (Int × ((List (List Int)) × (Int × Int))))) (K : Int → Prop) (v34 : Int) (X1 : Int → Prop) : Prop :=
  (((decide (v34 < (m.2.2.1.length : Int))) = true → (inIdx v34 m.2.2.1.length ∧ Loop (σ := Int) (fun s X => VC40_l2 m K v34 X1 s X) (0 : Int))) ∧ ((decide (v34 < (m.2.2.1.length : Int))) = false → VC40_k1 m K))

def VC40 (m : (Int × (Int × ((List (List Int)) × (Int × Int))))) (K : Int → Prop) : Prop :=
  VC61 m.1 (1 : Int) (7 : Int) (fun (ret10v : Bool) => gcall (α := Bool) (!(!ret10v)) (VC61 m.2.1 (1 : Int) (3 : Int)) false (fun (ret15v : Bool) => ((((!ret10v) || (!ret15v)) = true → K (1 : Int)) ∧ (((!ret10v) || (!ret15v)) = false → gcall (α := Bool) (!(!decide ((m.2.2.1.length : Int) = m.1))) (VC62 m.2.2.1 (fun (x : (List Int)) (K : Bool → Prop) => VC63 x m K)) false (fun (ret28v : Bool) => ((((!decide ((m.2.2.1.length : Int) = m.1)) || ret28v) = true → K (3 : Int)) ∧ (((!decide ((m.2.2.1.length : Int) = m.1)) || ret28v) = false → Loop (σ := Int) (fun s X => VC40_l1 m K s X) (0 : Int))))))))

set_option maxHeartbeats 4000000 in
theorem link40 (m : (Int × (Int × ((List (List Int)) × (Int × Int))))) (K : Int → Prop) (h : VC40 m K) : ACalls Try.prog 40 [toV1 (.pr (.int .i64) (.pr (.int .i64) (.pr (.sl (.sl (.int .i64))) (.pr (.int .i64) (.int .u32))))) m] (fun res => ∃ y, res = (fun y => [toV1 (.int .i64) y]) y ∧ K y) := by
  refine acalls_of_aw [(.int .i64)] [.t 2] Try.func40 rfl rfl rfl ?_
  unfold VC40 at h
  refine aw_seq ?_
  refine aw_region ?_
  refine awl_runp 2 [1] [1] (ob := (True ∧ True ∧ True)) (st' := (⟨61, [(1, [], .v (.c (.ptr 1 0)))], [(1, [], .box [.p (.int .i64) m.1, .p (.int .i64) m.2.1, .p (.sl (.sl (.int .i64))) m.2.2.1, .p (.int .i64) m.2.2.2.1, .p (.int .u32) m.2.2.2.2])]⟩ : St)) (by kernel_rfl) ⟨trivial, trivial, trivial⟩ ?_
  refine awl_nil ?_
  refine thenQ_n ?_
  refine aw_seq ?_
  refine aw_seq ?_
  refine aw_region ?_
  refine awl_runp 2 [1, 9] [1] (ob := (True ∧ True ∧ True)) (st' := (⟨61, [(1, [], .v (.c (.ptr 1 0))), (9, [], .v (.c (.p (.int .i64) m.1)))], [(1, [], .box [.p (.int .i64) m.1, .p (.int .i64) m.2.1, .p (.sl (.sl (.int .i64))) m.2.2.1, .p (.int .i64) m.2.2.2.1, .p (.int .u32) m.2.2.2.2])]⟩ : St)) (by kernel_rfl) ⟨trivial, trivial, trivial⟩ ?_
  refine awl_callk (p := []) (l := [toV1 (.int .i64) m.1, toV1 (.int .i64) (1 : Int), toV1 (.int .i64) (7 : Int)]) (cl := []) false [.d (.int .i64), .d (.int .i64), .d (.int .i64)] [1, 10] [1] (fun (ret10v : Bool) => gcall (α := Bool) (!(!ret10v)) (VC61 m.2.1 (1 : Int) (3 : Int)) false (fun (ret15v : Bool) => ((((!ret10v) || (!ret15v)) = true → K (1 : Int)) ∧ (((!ret10v) || (!ret15v)) = false → gcall (α := Bool) (!(!decide ((m.2.2.1.length : Int) = m.1))) (VC62 m.2.2.1 (fun (x : (List Int)) (K : Bool → Prop) => VC63 x m K)) false (fun (ret28v : Bool) => ((((!decide ((m.2.2.1.length : Int) = m.1)) || ret28v) = true → K (3 : Int)) ∧ (((!decide ((m.2.2.1.length : Int) = m.1)) || ret28v) = false → Loop (σ := Int) (fun s X => VC40_l1 m K s X) (0 : Int)))))))) (fun ret10v => [toV1 .bool ret10v]) (fun ret10v => (⟨61, [(1, [], .v (.c (.ptr 1 0))), (10, [], .v (.c (.p .bool ret10v)))], [(1, [], .box [.p (.int .i64) m.1, .p (.int .i64) m.2.1, .p (.sl (.sl (.int .i64))) m.2.2.1, .p (.int .i64) m.2.2.2.1, .p (.int .u32) m.2.2.2.2])]⟩ : St)) (by kernel_rfl) rfl (by kernel_rfl) rfl (by kernel_rfl) Try.call61 (by kernel_rfl) (fun ret10v => by kernel_rfl) (fun e => by cases e) (fun hg => link61 m.1 (1 : Int) (7 : Int) _ h) (fun hg => noF hg) (fun ret10v h => ?_)
  have h : gcall (α := Bool) (!(!ret10v)) (VC61 m.2.1 (1 : Int) (3 : Int)) false (fun (ret15v : Bool) => ((((!ret10v) || (!ret15v)) = true → K (1 : Int)) ∧ (((!ret10v) || (!ret15v)) = false → gcall (α := Bool) (!(!decide ((m.2.2.1.length : Int) = m.1))) (VC62 m.2.2.1 (fun (x : (List Int)) (K : Bool → Prop) => VC63 x m K)) false (fun (ret28v : Bool) => ((((!decide ((m.2.2.1.length : Int) = m.1)) || ret28v) = true → K (3 : Int)) ∧ (((!decide ((m.2.2.1.length : Int) = m.1)) || ret28v) = false → Loop (σ := Int) (fun s X => VC40_l1 m K s X) (0 : Int))))))) := h
  refine awl_runp 4 [1, 12, 14] [1] (ob := (True ∧ True ∧ ((!ret10v) = false → True) ∧ ((!ret10v) = false → True) ∧ True)) (st' := (⟨61, [(1, [], .v (.c (.ptr 1 0))), (12, [], .v (.c (.p .bool (!ret10v)))), (14, [(12, false)], .v (.c (.p (.int .i64) m.2.1)))], [(1, [], .box [.p (.int .i64) m.1, .p (.int .i64) m.2.1, .p (.sl (.sl (.int .i64))) m.2.2.1, .p (.int .i64) m.2.2.2.1, .p (.int .u32) m.2.2.2.2])]⟩ : St)) (by kernel_rfl) ⟨trivial, trivial, (fun _ => trivial), (fun _ => trivial), trivial⟩ ?_
  refine awl_callk (p := [(12, false)]) (l := [toV1 (.int .i64) m.2.1, toV1 (.int .i64) (1 : Int), toV1 (.int .i64) (3 : Int)]) (cl := []) false [.d (.int .i64), .d (.int .i64), .d (.int .i64)] [1, 12, 15] [1] (fun (ret15v : Bool) => ((((!ret10v) || (!ret15v)) = true → K (1 : Int)) ∧ (((!ret10v) || (!ret15v)) = false → gcall (α := Bool) (!(!decide ((m.2.2.1.length : Int) = m.1))) (VC62 m.2.2.1 (fun (x : (List Int)) (K : Bool → Prop) => VC63 x m K)) false (fun (ret28v : Bool) => ((((!decide ((m.2.2.1.length : Int) = m.1)) || ret28v) = true → K (3 : Int)) ∧ (((!decide ((m.2.2.1.length : Int) = m.1)) || ret28v) = false → Loop (σ := Int) (fun s X => VC40_l1 m K s X) (0 : Int))))))) (fun ret15v => [toV1 .bool ret15v]) (fun ret15v => (⟨61, [(1, [], .v (.c (.ptr 1 0))), (12, [], .v (.c (.p .bool (!ret10v)))), (15, [(12, false)], .v (.c (.p .bool ret15v)))], [(1, [], .box [.p (.int .i64) m.1, .p (.int .i64) m.2.1, .p (.sl (.sl (.int .i64))) m.2.2.1, .p (.int .i64) m.2.2.2.1, .p (.int .u32) m.2.2.2.2])]⟩ : St)) (by kernel_rfl) rfl (by kernel_rfl) rfl (by kernel_rfl) Try.call61 (by kernel_rfl) (fun ret15v => by kernel_rfl) (fun e => by cases e) (fun hg => link61 m.2.1 (1 : Int) (3 : Int) _ (by have := gcall_T h (show (!(!ret10v)) = true from hg); exact this)) (fun hg => ⟨false, by have := gcall_F h (show (!(!ret10v)) = false from hg); exact this⟩) (fun ret15v h => ?_)
  have h : ((((!ret10v) || (!ret15v)) = true → K (1 : Int)) ∧ (((!ret10v) || (!ret15v)) = false → gcall (α := Bool) (!(!decide ((m.2.2.1.length : Int) = m.1))) (VC62 m.2.2.1 (fun (x : (List Int)) (K : Bool → Prop) => VC63 x m K)) false (fun (ret28v : Bool) => ((((!decide ((m.2.2.1.length : Int) = m.1)) || ret28v) = true → K (3 : Int)) ∧ (((!decide ((m.2.2.1.length : Int) = m.1)) || ret28v) = false → Loop (σ := Int) (fun s X => VC40_l1 m K s X) (0 : Int)))))) := h
  refine awl_runp 2 [1, 17] [1] (ob := (((!ret10v) = false → True) ∧ True ∧ True)) (st' := (⟨61, [(1, [], .v (.c (.ptr 1 0))), (17, [], .v (.c (.p .bool ((!ret10v) || (!ret15v)))))], [(1, [], .box [.p (.int .i64) m.1, .p (.int .i64) m.2.1, .p (.sl (.sl (.int .i64))) m.2.2.1, .p (.int .i64) m.2.2.2.1, .p (.int .u32) m.2.2.2.2])]⟩ : St)) (by kernel_rfl) ⟨(fun _ => trivial), trivial, trivial⟩ ?_
  refine awl_nil ?_
  refine thenQ_n ?_
  refine aw_cond (b := ((!ret10v) || (!ret15v))) (by kernel_rfl) (fun hb => ?_) (fun hb => ?_)
  · have h := h.1 hb
    refine aw_seq ?_
    refine aw_region ?_
    refine awl_runp 1 [2] [] (ob := (True ∧ True)) (st' := (⟨61, [(2, [], .v (.c (.p (.int .i64) (1 : Int))))], []⟩ : St)) (by kernel_rfl) ⟨trivial, trivial⟩ ?_
    refine awl_nil ?_
    refine thenQ_n ?_
    refine aw_ret ?_
    refine thenQ_r ?_
    exact retQ_r (σ := Int) (R := (fun y => [toV1 (.int .i64) y])) (ob := (True ∧ True)) (1 : Int) (by kernel_rfl) ⟨trivial, trivial⟩ h
  · have h := h.2 hb
    refine aw_skip ?_
    refine thenQ_n ?_
    refine aw_seq ?_
    refine aw_seq ?_
    refine aw_region ?_
    refine awl_runp 9 [1, 24, 26] [1] (ob := (True ∧ True ∧ True ∧ True ∧ True ∧ True ∧ True ∧ ((!decide ((m.2.2.1.length : Int) = m.1)) = false → True) ∧ ((!decide ((m.2.2.1.length : Int) = m.1)) = false → True) ∧ True)) (st' := (⟨61, [(1, [], .v (.c (.ptr 1 0))), (24, [], .v (.c (.p .bool (!decide ((m.2.2.1.length : Int) = m.1))))), (26, [(24, false)], .v (.c (.p (.sl (.sl (.int .i64))) m.2.2.1)))], [(1, [], .box [.p (.int .i64) m.1, .p (.int .i64) m.2.1, .p (.sl (.sl (.int .i64))) m.2.2.1, .p (.int .i64) m.2.2.2.1, .p (.int .u32) m.2.2.2.2])]⟩ : St)) (by kernel_rfl) ⟨trivial, trivial, trivial, trivial, trivial, trivial, trivial, (fun _ => trivial), (fun _ => trivial), trivial⟩ ?_
    refine awl_conv [.freezeB 1 (.pr (.int .i64) (.pr (.int .i64) (.pr (.sl (.sl (.int .i64))) (.pr (.int .i64) (.int .u32)))))] (st' := (⟨61, [(1, [], .v (.c (.ad (.pr (.int .i64) (.pr (.int .i64) (.pr (.sl (.sl (.int .i64))) (.pr (.int .i64) (.int .u32))))) m))), (24, [], .v (.c (.p .bool (!decide ((m.2.2.1.length : Int) = m.1))))), (26, [(24, false)], .v (.c (.p (.sl (.sl (.int .i64))) m.2.2.1)))], []⟩ : St)) (by kernel_rfl) ?_
    refine awl_runp 1 [1, 24, 26, 27] [] (ob := (((!decide ((m.2.2.1.length : Int) = m.1)) = false → True) ∧ True)) (st' := (⟨61, [(1, [], .v (.c (.ad (.pr (.int .i64) (.pr (.int .i64) (.pr (.sl (.sl (.int .i64))) (.pr (.int .i64) (.int .u32))))) m))), (24, [], .v (.c (.p .bool (!decide ((m.2.2.1.length : Int) = m.1))))), (26, [(24, false)], .v (.c (.p (.sl (.sl (.int .i64))) m.2.2.1))), (27, [(24, false)], .v (.c (.fn 63 [(⟨(.pr (.int .i64) (.pr (.int .i64) (.pr (.sl (.sl (.int .i64))) (.pr (.int .i64) (.int .u32))))), m⟩ : Dat)])))], []⟩ : St)) (by kernel_rfl) ⟨(fun _ => trivial), trivial⟩ ?_
    refine awl_callk (p := [(24, false)]) (l := [toV1 (.sl (.sl (.int .i64))) m.2.2.1, .c (.fn 63 [(⟨(.pr (.int .i64) (.pr (.int .i64) (.pr (.sl (.sl (.int .i64))) (.pr (.int .i64) (.int .u32))))), m⟩ : Dat)])]) (cl := []) false [.d (.sl (.sl (.int .i64))), .fn] [1, 24, 28] [] (fun (ret28v : Bool) => ((((!decide ((m.2.2.1.length : Int) = m.1)) || ret28v) = true → K (3 : Int)) ∧ (((!decide ((m.2.2.1.length : Int) = m.1)) || ret28v) = false → Loop (σ := Int) (fun s X => VC40_l1 m K s X) (0 : Int)))) (fun ret28v => [toV1 .bool ret28v]) (fun ret28v => (⟨61, [(1, [], .v (.c (.ad (.pr (.int .i64) (.pr (.int .i64) (.pr (.sl (.sl (.int .i64))) (.pr (.int .i64) (.int .u32))))) m))), (24, [], .v (.c (.p .bool (!decide ((m.2.2.1.length : Int) = m.1))))), (28, [(24, false)], .v (.c (.p .bool ret28v)))], []⟩ : St)) (by kernel_rfl) rfl (by kernel_rfl) rfl (by kernel_rfl) Try.call62 (by kernel_rfl) (fun ret28v => by kernel_rfl) (fun e => by cases e) (fun hg => link62 m.2.2.1 63 [(⟨(.pr (.int .i64) (.pr (.int .i64) (.pr (.sl (.sl (.int .i64))) (.pr (.int .i64) (.int .u32))))), m⟩ : Dat)] (fun (x : (List Int)) (K : Bool → Prop) => VC63 x m K) ⟨Try.call63, fun x K h => link63 x m K h⟩ _ (by have := gcall_T h (show (!(!decide ((m.2.2.1.length : Int) = m.1))) = true from hg); exact this)) (fun hg => ⟨false, by have := gcall_F h (show (!(!decide ((m.2.2.1.length : Int) = m.1))) = false from hg); exact this⟩) (fun ret28v h => ?_)
    have h : ((((!decide ((m.2.2.1.length : Int) = m.1)) || ret28v) = true → K (3 : Int)) ∧ (((!decide ((m.2.2.1.length : Int) = m.1)) || ret28v) = false → Loop (σ := Int) (fun s X => VC40_l1 m K s X) (0 : Int))) := h
    refine awl_runp 1 [1, 29] [] (ob := (True ∧ True)) (st' := (⟨61, [(1, [], .v (.c (.ad (.pr (.int .i64) (.pr (.int .i64) (.pr (.sl (.sl (.int .i64))) (.pr (.int .i64) (.int .u32))))) m))), (29, [], .v (.c (.p .bool ((!decide ((m.2.2.1.length : Int) = m.1)) || ret28v))))], []⟩ : St)) (by kernel_rfl) ⟨trivial, trivial⟩ ?_
    refine awl_nil ?_
    refine thenQ_n ?_
    refine aw_cond (b := ((!decide ((m.2.2.1.length : Int) = m.1)) || ret28v)) (by kernel_rfl) (fun hb => ?_) (fun hb => ?_)
    · have h := h.1 hb
      refine aw_seq ?_
      refine aw_region ?_
      refine awl_runp 1 [2] [] (ob := (True ∧ True)) (st' := (⟨61, [(2, [], .v (.c (.p (.int .i64) (3 : Int))))], []⟩ : St)) (by kernel_rfl) ⟨trivial, trivial⟩ ?_
      refine awl_nil ?_
      refine thenQ_n ?_
      refine aw_ret ?_
      refine thenQ_r ?_
      exact retQ_r (σ := Int) (R := (fun y => [toV1 (.int .i64) y])) (ob := (True ∧ True)) (3 : Int) (by kernel_rfl) ⟨trivial, trivial⟩ h
    · have h := h.2 hb
      refine aw_skip ?_
      refine thenQ_n ?_
      refine aw_seq ?_
      refine aw_region ?_
      refine awl_runp 2 [1, 3] [] (ob := (True ∧ True ∧ True)) (st' := (⟨61, [(1, [], .v (.c (.ad (.pr (.int .i64) (.pr (.int .i64) (.pr (.sl (.sl (.int .i64))) (.pr (.int .i64) (.int .u32))))) m))), (3, [], .v (.c (.fn 64 [(⟨(.pr (.int .i64) (.pr (.int .i64) (.pr (.sl (.sl (.int .i64))) (.pr (.int .i64) (.int .u32))))), m⟩ : Dat)])))], []⟩ : St)) (by kernel_rfl) ⟨trivial, trivial, trivial⟩ ?_
      refine awl_nil ?_
      refine thenQ_n ?_
      refine aw_seq ?_
      refine aw_seq ?_
      refine aw_region ?_
      refine awl_runp 4 [1, 3, 32, 33, 34] [] (ob := (True ∧ True ∧ True ∧ True ∧ True)) (st' := (⟨61, [(1, [], .v (.c (.ad (.pr (.int .i64) (.pr (.int .i64) (.pr (.sl (.sl (.int .i64))) (.pr (.int .i64) (.int .u32))))) m))), (3, [], .v (.c (.fn 64 [(⟨(.pr (.int .i64) (.pr (.int .i64) (.pr (.sl (.sl (.int .i64))) (.pr (.int .i64) (.int .u32))))), m⟩ : Dat)]))), (32, [], .v (.c (.p (.sl (.sl (.int .i64))) m.2.2.1))), (33, [], .v (.c (.p (.int .i64) (m.2.2.1.length : Int)))), (34, [], .v (.c (.p (.int .i64) (0 : Int))))], []⟩ : St)) (by kernel_rfl) ⟨trivial, trivial, trivial, trivial, trivial⟩ ?_
      refine awl_nil ?_
      refine thenQ_n ?_
      refine withJoin (σ := Unit) (fun s => (⟨61, [(1, [], .v (.c (.ad (.pr (.int .i64) (.pr (.int .i64) (.pr (.sl (.sl (.int .i64))) (.pr (.int .i64) (.int .u32))))) m))), (3, [], .v (.c (.fn 64 [(⟨(.pr (.int .i64) (.pr (.int .i64) (.pr (.sl (.sl (.int .i64))) (.pr (.int .i64) (.int .u32))))), m⟩ : Dat)])))], []⟩ : St)) (fun s => VC40_k1 m K) (fun s h => ?_) (fun rest1 => ?_)
      · have h : VC40_k1 m K := h
        unfold VC40_k1 at h
        refine thenQ_n ?_
        refine aw_seq ?_
        refine aw_seq ?_
        refine aw_region ?_
        refine awl_runp 3 [1, 50, 52] [] (ob := (True ∧ True ∧ True ∧ True)) (st' := (⟨61, [(1, [], .v (.c (.ad (.pr (.int .i64) (.pr (.int .i64) (.pr (.sl (.sl (.int .i64))) (.pr (.int .i64) (.int .u32))))) m))), (50, [], .v (.c (.fn 64 [(⟨(.pr (.int .i64) (.pr (.int .i64) (.pr (.sl (.sl (.int .i64))) (.pr (.int .i64) (.int .u32))))), m⟩ : Dat)]))), (52, [], .v (.c (.p (.int .i64) m.2.2.2.1)))], []⟩ : St)) (by kernel_rfl) ⟨trivial, trivial, trivial, trivial⟩ ?_
        refine awl_callk (p := []) (l := [toV1 (.int .i64) m.2.2.2.1]) (cl := [.c (.ad (.pr (.int .i64) (.pr (.int .i64) (.pr (.sl (.sl (.int .i64))) (.pr (.int .i64) (.int .u32))))) m)]) false [.d (.int .i64)] [1, 53] [] (fun (ret53v : Bool) => (((!ret53v) = true → K (2 : Int)) ∧ ((!ret53v) = false → ((0 ≤ m.2.2.2.2 ∧ 0 ≤ m.1) ∧ (((!decide ((bShr .u32 m.2.2.2.2 m.1) = (0 : Int))) = true → K (4 : Int)) ∧ ((!decide ((bShr .u32 m.2.2.2.2 m.1) = (0 : Int))) = false → K (0 : Int))))))) (fun ret53v => [toV1 .bool ret53v]) (fun ret53v => (⟨61, [(1, [], .v (.c (.ad (.pr (.int .i64) (.pr (.int .i64) (.pr (.sl (.sl (.int .i64))) (.pr (.int .i64) (.int .u32))))) m))), (53, [], .v (.c (.p .bool ret53v)))], []⟩ : St)) (by kernel_rfl) rfl (by kernel_rfl) rfl (by kernel_rfl) Try.call64 (by kernel_rfl) (fun ret53v => by kernel_rfl) (fun e => by cases e) (fun hg => link64 m.2.2.2.1 m _ h) (fun hg => noF hg) (fun ret53v h => ?_)
        have h : (((!ret53v) = true → K (2 : Int)) ∧ ((!ret53v) = false → ((0 ≤ m.2.2.2.2 ∧ 0 ≤ m.1) ∧ (((!decide ((bShr .u32 m.2.2.2.2 m.1) = (0 : Int))) = true → K (4 : Int)) ∧ ((!decide ((bShr .u32 m.2.2.2.2 m.1) = (0 : Int))) = false → K (0 : Int)))))) := h
        refine awl_runp 1 [1, 54] [] (ob := (True ∧ True)) (st' := (⟨61, [(1, [], .v (.c (.ad (.pr (.int .i64) (.pr (.int .i64) (.pr (.sl (.sl (.int .i64))) (.pr (.int .i64) (.int .u32))))) m))), (54, [], .v (.c (.p .bool (!ret53v))))], []⟩ : St)) (by kernel_rfl) ⟨trivial, trivial⟩ ?_
        refine awl_nil ?_
        refine thenQ_n ?_
        refine aw_cond (b := (!ret53v)) (by kernel_rfl) (fun hb => ?_) (fun hb => ?_)
        · have h := h.1 hb
          refine aw_seq ?_
          refine aw_region ?_
          refine awl_runp 1 [2] [] (ob := (True ∧ True)) (st' := (⟨61, [(2, [], .v (.c (.p (.int .i64) (2 : Int))))], []⟩ : St)) (by kernel_rfl) ⟨trivial, trivial⟩ ?_
          refine awl_nil ?_
          refine thenQ_n ?_
          refine aw_ret ?_
          refine thenQ_r ?_
          exact retQ_r (σ := Int) (R := (fun y => [toV1 (.int .i64) y])) (ob := (True ∧ True)) (2 : Int) (by kernel_rfl) ⟨trivial, trivial⟩ h
        · have h := h.2 hb
          refine aw_skip ?_
          refine thenQ_n ?_
          refine aw_seq ?_
          refine aw_seq ?_
          refine aw_region ?_
          obtain ⟨o1, h⟩ := h
          refine awl_runp 6 [60] [] (ob := (True ∧ True ∧ True ∧ True ∧ (0 ≤ m.2.2.2.2 ∧ 0 ≤ m.1) ∧ True ∧ True)) (st' := (⟨61, [(60, [], .v (.c (.p .bool (!decide ((bShr .u32 m.2.2.2.2 m.1) = (0 : Int))))))], []⟩ : St)) (by kernel_rfl) ⟨trivial, trivial, trivial, trivial, o1, trivial, trivial⟩ ?_
          refine awl_nil ?_
          refine thenQ_n ?_
          refine aw_cond (b := (!decide ((bShr .u32 m.2.2.2.2 m.1) = (0 : Int)))) (by kernel_rfl) (fun hb => ?_) (fun hb => ?_)
          · have h := h.1 hb
            refine aw_seq ?_
            refine aw_region ?_
            refine awl_runp 1 [2] [] (ob := (True ∧ True)) (st' := (⟨61, [(2, [], .v (.c (.p (.int .i64) (4 : Int))))], []⟩ : St)) (by kernel_rfl) ⟨trivial, trivial⟩ ?_
            refine awl_nil ?_
            refine thenQ_n ?_
            refine aw_ret ?_
            refine thenQ_r ?_
            exact retQ_r (σ := Int) (R := (fun y => [toV1 (.int .i64) y])) (ob := (True ∧ True)) (4 : Int) (by kernel_rfl) ⟨trivial, trivial⟩ h
          · have h := h.2 hb
            refine aw_skip ?_
            refine thenQ_n ?_
            refine aw_seq ?_
            refine aw_region ?_
            refine awl_runp 1 [2] [] (ob := (True ∧ True)) (st' := (⟨61, [(2, [], .v (.c (.p (.int .i64) (0 : Int))))], []⟩ : St)) (by kernel_rfl) ⟨trivial, trivial⟩ ?_
            refine awl_nil ?_
            refine thenQ_n ?_
            refine aw_ret ?_
            exact retQ_r (σ := Int) (R := (fun y => [toV1 (.int .i64) y])) (ob := (True ∧ True)) (0 : Int) (by kernel_rfl) ⟨trivial, trivial⟩ h
      · refine aw_block ?_
        refine aw_loop (σ := Int) (fun s => (⟨61, [(1, [], .v (.c (.ad (.pr (.int .i64) (.pr (.int .i64) (.pr (.sl (.sl (.int .i64))) (.pr (.int .i64) (.int .u32))))) m))), (3, [], .v (.c (.fn 64 [(⟨(.pr (.int .i64) (.pr (.int .i64) (.pr (.sl (.sl (.int .i64))) (.pr (.int .i64) (.int .u32))))), m⟩ : Dat)]))), (32, [], .v (.c (.p (.sl (.sl (.int .i64))) m.2.2.1))), (33, [], .v (.c (.p (.int .i64) (m.2.2.1.length : Int)))), (34, [], .v (.c (.p (.int .i64) s)))], []⟩ : St)) (fun s X => VC40_l1 m K s X) (s0 := (0 : Int)) (fun v34 X1 h => ?_) h
        have h : VC40_l1 m K v34 X1 := h
        unfold VC40_l1 at h
        refine aw_seq ?_
        refine aw_region ?_
        refine awl_runp 1 [1, 3, 32, 33, 34, 35] [] (ob := (True ∧ True)) (st' := (⟨61, [(1, [], .v (.c (.ad (.pr (.int .i64) (.pr (.int .i64) (.pr (.sl (.sl (.int .i64))) (.pr (.int .i64) (.int .u32))))) m))), (3, [], .v (.c (.fn 64 [(⟨(.pr (.int .i64) (.pr (.int .i64) (.pr (.sl (.sl (.int .i64))) (.pr (.int .i64) (.int .u32))))), m⟩ : Dat)]))), (32, [], .v (.c (.p (.sl (.sl (.int .i64))) m.2.2.1))), (33, [], .v (.c (.p (.int .i64) (m.2.2.1.length : Int)))), (34, [], .v (.c (.p (.int .i64) v34))), (35, [], .v (.c (.p .bool (decide (v34 < (m.2.2.1.length : Int))))))], []⟩ : St)) (by kernel_rfl) ⟨trivial, trivial⟩ ?_
        refine awl_nil ?_
        refine thenQ_n ?_
        refine aw_seq ?_
        refine aw_cond (b := (decide (v34 < (m.2.2.1.length : Int)))) (by kernel_rfl) (fun hb => ?_) (fun hb => ?_)
        · have h := h.1 hb
          refine aw_skip ?_
          refine thenQ_n ?_
          refine aw_seq ?_
          refine aw_block ?_
          refine aw_seq ?_
          refine aw_region ?_
          obtain ⟨o1, h⟩ := h
          refine awl_runp 3 [1, 3, 5, 32, 33, 34] [] (ob := (inIdx v34 m.2.2.1.length ∧ True ∧ True ∧ True)) (st' := (⟨61, [(1, [], .v (.c (.ad (.pr (.int .i64) (.pr (.int .i64) (.pr (.sl (.sl (.int .i64))) (.pr (.int .i64) (.int .u32))))) m))), (3, [], .v (.c (.fn 64 [(⟨(.pr (.int .i64) (.pr (.int .i64) (.pr (.sl (.sl (.int .i64))) (.pr (.int .i64) (.int .u32))))), m⟩ : Dat)]))), (5, [], .v (.c (.p (.sl (.int .i64)) (m.2.2.1.getD (v34).toNat ([] : (List Int)))))), (32, [], .v (.c (.p (.sl (.sl (.int .i64))) m.2.2.1))), (33, [], .v (.c (.p (.int .i64) (m.2.2.1.length : Int)))), (34, [], .v (.c (.p (.int .i64) v34)))], []⟩ : St)) (by kernel_rfl) ⟨o1, trivial, trivial, trivial⟩ ?_
          refine awl_nil ?_
          refine thenQ_n ?_
          refine aw_seq ?_
          refine aw_region ?_
          refine awl_runp 3 [1, 3, 32, 33, 34, 38, 39, 40] [] (ob := (True ∧ True ∧ True ∧ True)) (st' := (⟨61, [(1, [], .v (.c (.ad (.pr (.int .i64) (.pr (.int .i64) (.pr (.sl (.sl (.int .i64))) (.pr (.int .i64) (.int .u32))))) m))), (3, [], .v (.c (.fn 64 [(⟨(.pr (.int .i64) (.pr (.int .i64) (.pr (.sl (.sl (.int .i64))) (.pr (.int .i64) (.int .u32))))), m⟩ : Dat)]))), (32, [], .v (.c (.p (.sl (.sl (.int .i64))) m.2.2.1))), (33, [], .v (.c (.p (.int .i64) (m.2.2.1.length : Int)))), (34, [], .v (.c (.p (.int .i64) v34))), (38, [], .v (.c (.p (.sl (.int .i64)) (m.2.2.1.getD (v34).toNat ([] : (List Int)))))), (39, [], .v (.c (.p (.int .i64) ((m.2.2.1.getD (v34).toNat ([] : (List Int))).length : Int)))), (40, [], .v (.c (.p (.int .i64) (0 : Int))))], []⟩ : St)) (by kernel_rfl) ⟨trivial, trivial, trivial, trivial⟩ ?_
          refine awl_nil ?_
          refine thenQ_n ?_
          refine withJoin (σ := Unit) (fun s => (⟨61, [(1, [], .v (.c (.ad (.pr (.int .i64) (.pr (.int .i64) (.pr (.sl (.sl (.int .i64))) (.pr (.int .i64) (.int .u32))))) m))), (3, [], .v (.c (.fn 64 [(⟨(.pr (.int .i64) (.pr (.int .i64) (.pr (.sl (.sl (.int .i64))) (.pr (.int .i64) (.int .u32))))), m⟩ : Dat)]))), (32, [], .v (.c (.p (.sl (.sl (.int .i64))) m.2.2.1))), (33, [], .v (.c (.p (.int .i64) (m.2.2.1.length : Int)))), (34, [], .v (.c (.p (.int .i64) v34)))], []⟩ : St)) (fun s => VC40_k2 v34 X1) (fun s h => ?_) (fun rest2 => ?_)
          · have h : VC40_k2 v34 X1 := h
            unfold VC40_k2 at h
            refine blockQ_n ?_
            refine thenQ_n ?_
            refine aw_region ?_
            obtain ⟨o1, h⟩ := h
            refine awl_runp 2 [1, 3, 32, 33, 34] [] (ob := (InR (v34 + (1 : Int)) ∧ True ∧ True)) (st' := (⟨61, [(1, [], .v (.c (.ad (.pr (.int .i64) (.pr (.int .i64) (.pr (.sl (.sl (.int .i64))) (.pr (.int .i64) (.int .u32))))) m))), (3, [], .v (.c (.fn 64 [(⟨(.pr (.int .i64) (.pr (.int .i64) (.pr (.sl (.sl (.int .i64))) (.pr (.int .i64) (.int .u32))))), m⟩ : Dat)]))), (32, [], .v (.c (.p (.sl (.sl (.int .i64))) m.2.2.1))), (33, [], .v (.c (.p (.int .i64) (m.2.2.1.length : Int)))), (34, [], .v (.c (.p (.int .i64) (v34 + (1 : Int)))))], []⟩ : St)) (by kernel_rfl) ⟨o1, trivial, trivial⟩ ?_
            refine awl_nil ?_
            exact thenQ_n ⟨(v34 + (1 : Int)), rfl, h⟩
          · refine aw_block ?_
            refine aw_loop (σ := Int) (fun s => (⟨61, [(1, [], .v (.c (.ad (.pr (.int .i64) (.pr (.int .i64) (.pr (.sl (.sl (.int .i64))) (.pr (.int .i64) (.int .u32))))) m))), (3, [], .v (.c (.fn 64 [(⟨(.pr (.int .i64) (.pr (.int .i64) (.pr (.sl (.sl (.int .i64))) (.pr (.int .i64) (.int .u32))))), m⟩ : Dat)]))), (32, [], .v (.c (.p (.sl (.sl (.int .i64))) m.2.2.1))), (33, [], .v (.c (.p (.int .i64) (m.2.2.1.length : Int)))), (34, [], .v (.c (.p (.int .i64) v34))), (38, [], .v (.c (.p (.sl (.int .i64)) (m.2.2.1.getD (v34).toNat ([] : (List Int)))))), (39, [], .v (.c (.p (.int .i64) ((m.2.2.1.getD (v34).toNat ([] : (List Int))).length : Int)))), (40, [], .v (.c (.p (.int .i64) s)))], []⟩ : St)) (fun s X => VC40_l2 m K v34 X1 s X) (s0 := (0 : Int)) (fun v40 X2 h => ?_) h
            have h : VC40_l2 m K v34 X1 v40 X2 := h
            unfold VC40_l2 at h
            refine aw_seq ?_
            refine aw_region ?_
            refine awl_runp 1 [1, 3, 32, 33, 34, 38, 39, 40, 41] [] (ob := (True ∧ True)) (st' := (⟨61, [(1, [], .v (.c (.ad (.pr (.int .i64) (.pr (.int .i64) (.pr (.sl (.sl (.int .i64))) (.pr (.int .i64) (.int .u32))))) m))), (3, [], .v (.c (.fn 64 [(⟨(.pr (.int .i64) (.pr (.int .i64) (.pr (.sl (.sl (.int .i64))) (.pr (.int .i64) (.int .u32))))), m⟩ : Dat)]))), (32, [], .v (.c (.p (.sl (.sl (.int .i64))) m.2.2.1))), (33, [], .v (.c (.p (.int .i64) (m.2.2.1.length : Int)))), (34, [], .v (.c (.p (.int .i64) v34))), (38, [], .v (.c (.p (.sl (.int .i64)) (m.2.2.1.getD (v34).toNat ([] : (List Int)))))), (39, [], .v (.c (.p (.int .i64) ((m.2.2.1.getD (v34).toNat ([] : (List Int))).length : Int)))), (40, [], .v (.c (.p (.int .i64) v40))), (41, [], .v (.c (.p .bool (decide (v40 < ((m.2.2.1.getD (v34).toNat ([] : (List Int))).length : Int))))))], []⟩ : St)) (by kernel_rfl) ⟨trivial, trivial⟩ ?_
            refine awl_nil ?_
            refine thenQ_n ?_
            refine aw_seq ?_
            refine aw_cond (b := (decide (v40 < ((m.2.2.1.getD (v34).toNat ([] : (List Int))).length : Int)))) (by kernel_rfl) (fun hb => ?_) (fun hb => ?_)
            · have h := h.1 hb
              refine aw_skip ?_
              refine thenQ_n ?_
              refine aw_seq ?_
              refine aw_block ?_
              refine aw_seq ?_
              refine aw_region ?_
              obtain ⟨o1, h⟩ := h
              refine awl_runp 3 [1, 3, 7, 32, 33, 34, 38, 39, 40] [] (ob := (inIdx v40 (m.2.2.1.getD (v34).toNat ([] : (List Int))).length ∧ True ∧ True ∧ True)) (st' := (⟨61, [(1, [], .v (.c (.ad (.pr (.int .i64) (.pr (.int .i64) (.pr (.sl (.sl (.int .i64))) (.pr (.int .i64) (.int .u32))))) m))), (3, [], .v (.c (.fn 64 [(⟨(.pr (.int .i64) (.pr (.int .i64) (.pr (.sl (.sl (.int .i64))) (.pr (.int .i64) (.int .u32))))), m⟩ : Dat)]))), (7, [], .v (.c (.p (.int .i64) ((m.2.2.1.getD (v34).toNat ([] : (List Int))).getD (v40).toNat (0 : Int))))), (32, [], .v (.c (.p (.sl (.sl (.int .i64))) m.2.2.1))), (33, [], .v (.c (.p (.int .i64) (m.2.2.1.length : Int)))), (34, [], .v (.c (.p (.int .i64) v34))), (38, [], .v (.c (.p (.sl (.int .i64)) (m.2.2.1.getD (v34).toNat ([] : (List Int)))))), (39, [], .v (.c (.p (.int .i64) ((m.2.2.1.getD (v34).toNat ([] : (List Int))).length : Int)))), (40, [], .v (.c (.p (.int .i64) v40)))], []⟩ : St)) (by kernel_rfl) ⟨o1, trivial, trivial, trivial⟩ ?_
              refine awl_nil ?_
              refine thenQ_n ?_
              refine aw_seq ?_
              refine aw_region ?_
              refine awl_runp 2 [1, 3, 32, 33, 34, 38, 39, 40, 44, 45] [] (ob := (True ∧ True ∧ True)) (st' := (⟨61, [(1, [], .v (.c (.ad (.pr (.int .i64) (.pr (.int .i64) (.pr (.sl (.sl (.int .i64))) (.pr (.int .i64) (.int .u32))))) m))), (3, [], .v (.c (.fn 64 [(⟨(.pr (.int .i64) (.pr (.int .i64) (.pr (.sl (.sl (.int .i64))) (.pr (.int .i64) (.int .u32))))), m⟩ : Dat)]))), (32, [], .v (.c (.p (.sl (.sl (.int .i64))) m.2.2.1))), (33, [], .v (.c (.p (.int .i64) (m.2.2.1.length : Int)))), (34, [], .v (.c (.p (.int .i64) v34))), (38, [], .v (.c (.p (.sl (.int .i64)) (m.2.2.1.getD (v34).toNat ([] : (List Int)))))), (39, [], .v (.c (.p (.int .i64) ((m.2.2.1.getD (v34).toNat ([] : (List Int))).length : Int)))), (40, [], .v (.c (.p (.int .i64) v40))), (44, [], .v (.c (.fn 64 [(⟨(.pr (.int .i64) (.pr (.int .i64) (.pr (.sl (.sl (.int .i64))) (.pr (.int .i64) (.int .u32))))), m⟩ : Dat)]))), (45, [], .v (.c (.p (.int .i64) ((m.2.2.1.getD (v34).toNat ([] : (List Int))).getD (v40).toNat (0 : Int)))))], []⟩ : St)) (by kernel_rfl) ⟨trivial, trivial, trivial⟩ ?_
              refine awl_callk (p := []) (l := [toV1 (.int .i64) ((m.2.2.1.getD (v34).toNat ([] : (List Int))).getD (v40).toNat (0 : Int))]) (cl := [.c (.ad (.pr (.int .i64) (.pr (.int .i64) (.pr (.sl (.sl (.int .i64))) (.pr (.int .i64) (.int .u32))))) m)]) false [.d (.int .i64)] [1, 3, 32, 33, 34, 38, 39, 40, 46] [] (fun (ret46v : Bool) => (((!ret46v) = true → K (2 : Int)) ∧ ((!ret46v) = false → (InR (v40 + (1 : Int)) ∧ X2 (v40 + (1 : Int)))))) (fun ret46v => [toV1 .bool ret46v]) (fun ret46v => (⟨61, [(1, [], .v (.c (.ad (.pr (.int .i64) (.pr (.int .i64) (.pr (.sl (.sl (.int .i64))) (.pr (.int .i64) (.int .u32))))) m))), (3, [], .v (.c (.fn 64 [(⟨(.pr (.int .i64) (.pr (.int .i64) (.pr (.sl (.sl (.int .i64))) (.pr (.int .i64) (.int .u32))))), m⟩ : Dat)]))), (32, [], .v (.c (.p (.sl (.sl (.int .i64))) m.2.2.1))), (33, [], .v (.c (.p (.int .i64) (m.2.2.1.length : Int)))), (34, [], .v (.c (.p (.int .i64) v34))), (38, [], .v (.c (.p (.sl (.int .i64)) (m.2.2.1.getD (v34).toNat ([] : (List Int)))))), (39, [], .v (.c (.p (.int .i64) ((m.2.2.1.getD (v34).toNat ([] : (List Int))).length : Int)))), (40, [], .v (.c (.p (.int .i64) v40))), (46, [], .v (.c (.p .bool ret46v)))], []⟩ : St)) (by kernel_rfl) rfl (by kernel_rfl) rfl (by kernel_rfl) Try.call64 (by kernel_rfl) (fun ret46v => by kernel_rfl) (fun e => by cases e) (fun hg => link64 ((m.2.2.1.getD (v34).toNat ([] : (List Int))).getD (v40).toNat (0 : Int)) m _ h) (fun hg => noF hg) (fun ret46v h => ?_)
              have h : (((!ret46v) = true → K (2 : Int)) ∧ ((!ret46v) = false → (InR (v40 + (1 : Int)) ∧ X2 (v40 + (1 : Int))))) := h
              refine awl_runp 1 [1, 3, 32, 33, 34, 38, 39, 40, 47] [] (ob := (True ∧ True)) (st' := (⟨61, [(1, [], .v (.c (.ad (.pr (.int .i64) (.pr (.int .i64) (.pr (.sl (.sl (.int .i64))) (.pr (.int .i64) (.int .u32))))) m))), (3, [], .v (.c (.fn 64 [(⟨(.pr (.int .i64) (.pr (.int .i64) (.pr (.sl (.sl (.int .i64))) (.pr (.int .i64) (.int .u32))))), m⟩ : Dat)]))), (32, [], .v (.c (.p (.sl (.sl (.int .i64))) m.2.2.1))), (33, [], .v (.c (.p (.int .i64) (m.2.2.1.length : Int)))), (34, [], .v (.c (.p (.int .i64) v34))), (38, [], .v (.c (.p (.sl (.int .i64)) (m.2.2.1.getD (v34).toNat ([] : (List Int)))))), (39, [], .v (.c (.p (.int .i64) ((m.2.2.1.getD (v34).toNat ([] : (List Int))).length : Int)))), (40, [], .v (.c (.p (.int .i64) v40))), (47, [], .v (.c (.p .bool (!ret46v))))], []⟩ : St)) (by kernel_rfl) ⟨trivial, trivial⟩ ?_
              refine awl_nil ?_
              refine thenQ_n ?_
              refine aw_cond (b := (!ret46v)) (by kernel_rfl) (fun hb => ?_) (fun hb => ?_)
              · have h := h.1 hb
                refine aw_seq ?_
                refine aw_region ?_
                refine awl_runp 1 [2] [] (ob := (True ∧ True)) (st' := (⟨61, [(2, [], .v (.c (.p (.int .i64) (2 : Int))))], []⟩ : St)) (by kernel_rfl) ⟨trivial, trivial⟩ ?_
                refine awl_nil ?_
                refine thenQ_n ?_
                refine aw_ret ?_
                refine blockQ_r ?_
                refine thenQ_r ?_
                refine thenQ_r ?_
                refine blockQ_r ?_
                refine blockQ_r ?_
                refine thenQ_r ?_
                refine thenQ_r ?_
                refine blockQ_r ?_
                refine thenQ_r ?_
                exact retQ_r (σ := Int) (R := (fun y => [toV1 (.int .i64) y])) (ob := (True ∧ True)) (2 : Int) (by kernel_rfl) ⟨trivial, trivial⟩ h
              · have h := h.2 hb
                refine aw_skip ?_
                refine blockQ_n ?_
                refine thenQ_n ?_
                refine aw_region ?_
                obtain ⟨o1, h⟩ := h
                refine awl_runp 2 [1, 3, 32, 33, 34, 38, 39, 40] [] (ob := (InR (v40 + (1 : Int)) ∧ True ∧ True)) (st' := (⟨61, [(1, [], .v (.c (.ad (.pr (.int .i64) (.pr (.int .i64) (.pr (.sl (.sl (.int .i64))) (.pr (.int .i64) (.int .u32))))) m))), (3, [], .v (.c (.fn 64 [(⟨(.pr (.int .i64) (.pr (.int .i64) (.pr (.sl (.sl (.int .i64))) (.pr (.int .i64) (.int .u32))))), m⟩ : Dat)]))), (32, [], .v (.c (.p (.sl (.sl (.int .i64))) m.2.2.1))), (33, [], .v (.c (.p (.int .i64) (m.2.2.1.length : Int)))), (34, [], .v (.c (.p (.int .i64) v34))), (38, [], .v (.c (.p (.sl (.int .i64)) (m.2.2.1.getD (v34).toNat ([] : (List Int)))))), (39, [], .v (.c (.p (.int .i64) ((m.2.2.1.getD (v34).toNat ([] : (List Int))).length : Int)))), (40, [], .v (.c (.p (.int .i64) (v40 + (1 : Int)))))], []⟩ : St)) (by kernel_rfl) ⟨o1, trivial, trivial⟩ ?_
                refine awl_nil ?_
                exact thenQ_n ⟨(v40 + (1 : Int)), rfl, h⟩
            · have h := h.2 hb
              refine aw_conv [.prune [1, 3, 32, 33, 34] []] (st' := (⟨61, [(1, [], .v (.c (.ad (.pr (.int .i64) (.pr (.int .i64) (.pr (.sl (.sl (.int .i64))) (.pr (.int .i64) (.int .u32))))) m))), (3, [], .v (.c (.fn 64 [(⟨(.pr (.int .i64) (.pr (.int .i64) (.pr (.sl (.sl (.int .i64))) (.pr (.int .i64) (.int .u32))))), m⟩ : Dat)]))), (32, [], .v (.c (.p (.sl (.sl (.int .i64))) m.2.2.1))), (33, [], .v (.c (.p (.int .i64) (m.2.2.1.length : Int)))), (34, [], .v (.c (.p (.int .i64) v34)))], []⟩ : St)) (by kernel_rfl) ?_
              refine aw_exit ?_
              refine thenQ_x ?_
              refine thenQ_x ?_
              refine blockQ_hit ?_
              exact rest2 () h
        · have h := h.2 hb
          refine aw_conv [.prune [1, 3] []] (st' := (⟨61, [(1, [], .v (.c (.ad (.pr (.int .i64) (.pr (.int .i64) (.pr (.sl (.sl (.int .i64))) (.pr (.int .i64) (.int .u32))))) m))), (3, [], .v (.c (.fn 64 [(⟨(.pr (.int .i64) (.pr (.int .i64) (.pr (.sl (.sl (.int .i64))) (.pr (.int .i64) (.int .u32))))), m⟩ : Dat)])))], []⟩ : St)) (by kernel_rfl) ?_
          refine aw_exit ?_
          refine thenQ_x ?_
          refine thenQ_x ?_
          refine blockQ_hit ?_
          exact rest1 () h

-- coppicer/machine.Word$1
def VC66 (sv : Int) (a1 : Int) (K : Bool → Prop) : Prop :=
  (InR (a1 - (1 : Int)) ∧ VC61 sv (0 : Int) (a1 - (1 : Int)) (fun (ret7v : Bool) => K (!ret7v)))

set_option maxHeartbeats 4000000 in
theorem link66 (sv : Int) (a1 : Int) (K : Bool → Prop) (h : VC66 sv a1 K) : ACalls Try.prog 66 [toV1 (.int .i64) sv, .c (.ad (.int .i64) a1)] (fun res => ∃ y, res = (fun y => [toV1 .bool y]) y ∧ K y) := by
  refine acalls_of_aw [.bool] [.t 3] Try.func66 rfl rfl rfl ?_
  unfold VC66 at h
  refine aw_seq ?_
  refine aw_region ?_
  refine awl_runp 1 [0, 1] [] (ob := (True ∧ True)) (st' := (⟨9, [(0, [], .v (.c (.p (.int .i64) sv))), (1, [], .v (.c (.ad (.int .i64) a1)))], []⟩ : St)) (by kernel_rfl) ⟨trivial, trivial⟩ ?_
  refine awl_nil ?_
  refine thenQ_n ?_
  refine aw_seq ?_
  refine aw_region ?_
  obtain ⟨o1, h⟩ := h
  refine awl_runp 3 [4, 6] [] (ob := (True ∧ True ∧ InR (a1 - (1 : Int)) ∧ True)) (st' := (⟨9, [(4, [], .v (.c (.p (.int .i64) sv))), (6, [], .v (.c (.p (.int .i64) (a1 - (1 : Int)))))], []⟩ : St)) (by kernel_rfl) ⟨trivial, trivial, o1, trivial⟩ ?_
  refine awl_callk (p := []) (l := [toV1 (.int .i64) sv, toV1 (.int .i64) (0 : Int), toV1 (.int .i64) (a1 - (1 : Int))]) (cl := []) false [.d (.int .i64), .d (.int .i64), .d (.int .i64)] [7] [] (fun (ret7v : Bool) => K (!ret7v)) (fun ret7v => [toV1 .bool ret7v]) (fun ret7v => (⟨9, [(7, [], .v (.c (.p .bool ret7v)))], []⟩ : St)) (by kernel_rfl) rfl (by kernel_rfl) rfl (by kernel_rfl) Try.call61 (by kernel_rfl) (fun ret7v => by kernel_rfl) (fun e => by cases e) (fun hg => link61 sv (0 : Int) (a1 - (1 : Int)) _ h) (fun hg => noF hg) (fun ret7v h => ?_)
  have h : K (!ret7v) := h
  refine awl_runp 2 [3] [] (ob := (True ∧ True ∧ True)) (st' := (⟨9, [(3, [], .v (.c (.p .bool (!ret7v))))], []⟩ : St)) (by kernel_rfl) ⟨trivial, trivial, trivial⟩ ?_
  refine awl_nil ?_
  refine thenQ_n ?_
  refine aw_ret ?_
  exact retQ_r (σ := Bool) (R := (fun y => [toV1 .bool y])) (ob := (True ∧ True)) (!ret7v) (by kernel_rfl) ⟨trivial, trivial⟩ h

-- slices.IndexFunc[[]int,int]
def VC73_k1 (K : Int → Prop) : Prop :=
  K (-1 : Int)

def VC73_l1 (sv : (List Int)) (F1 : Int → (Bool → Prop) → Prop) (K : Int → Prop) (v8 : Int) (X1 : Int → Prop) : Prop :=
  (((decide (v8 < (sv.length : Int))) = true → (inIdx v8 sv.length ∧ F1 (sv.getD (v8).toNat (0 : Int)) (fun (ret16v : Bool) => ((ret16v = true → K v8) ∧ (ret16v = false → (InR (v8 + (1 : Int)) ∧ X1 (v8 + (1 : Int)))))))) ∧ ((decide (v8 < (sv.length : Int))) = false → VC73_k1 K))

def VC73 (sv : (List Int)) (F1 : Int → (Bool → Prop) → Prop) (K : Int → Prop) : Prop :=
  Loop (σ := Int) (fun s X => VC73_l1 sv F1 K s X) (0 : Int)

set_option maxHeartbeats 4000000 in
theorem link73 (sv : (List Int)) (fv1 : FuncId) (cv1 : List Dat) (F1 : Int → (Bool → Prop) → Prop) (hF1 : FnIs Try.prog fv1 cv1 (fun (x : Int) => [toV1 (.int .i64) x]) (fun (y : Bool) => [toV1 .bool y]) F1) (K : Int → Prop) (h : VC73 sv F1 K) : ACalls Try.prog 73 [toV1 (.sl (.int .i64)) sv, .c (.fn fv1 cv1)] (fun res => ∃ y, res = (fun y => [toV1 (.int .i64) y]) y ∧ K y) := by
  refine acalls_of_aw [(.int .i64)] [.t 4] Try.func73 rfl rfl rfl ?_
  unfold VC73 at h
  refine aw_seq ?_
  refine aw_region ?_
  refine awl_runp 1 [0, 1] [] (ob := (True ∧ True)) (st' := (⟨19, [(0, [], .v (.c (.p (.sl (.int .i64)) sv))), (1, [], .v (.c (.fn fv1 cv1)))], []⟩ : St)) (by kernel_rfl) ⟨trivial, trivial⟩ ?_
  refine awl_nil ?_
  refine thenQ_n ?_
  refine aw_seq ?_
  refine aw_seq ?_
  refine aw_region ?_
  refine awl_runp 3 [0, 1, 7, 8] [] (ob := (True ∧ True ∧ True ∧ True)) (st' := (⟨19, [(0, [], .v (.c (.p (.sl (.int .i64)) sv))), (1, [], .v (.c (.fn fv1 cv1))), (7, [], .v (.c (.p (.int .i64) (sv.length : Int)))), (8, [], .v (.c (.p (.int .i64) (0 : Int))))], []⟩ : St)) (by kernel_rfl) ⟨trivial, trivial, trivial, trivial⟩ ?_
  refine awl_nil ?_
  refine thenQ_n ?_
  refine withJoin (σ := Unit) (fun s => (⟨19, [], []⟩ : St)) (fun s => VC73_k1 K) (fun s h => ?_) (fun rest1 => ?_)
  · have h : VC73_k1 K := h
    unfold VC73_k1 at h
    refine thenQ_n ?_
    refine aw_seq ?_
    refine aw_region ?_
    refine awl_runp 1 [4] [] (ob := (True ∧ True)) (st' := (⟨19, [(4, [], .v (.c (.p (.int .i64) (-1 : Int))))], []⟩ : St)) (by kernel_rfl) ⟨trivial, trivial⟩ ?_
    refine awl_nil ?_
    refine thenQ_n ?_
    refine aw_ret ?_
    exact retQ_r (σ := Int) (R := (fun y => [toV1 (.int .i64) y])) (ob := (True ∧ True)) (-1 : Int) (by kernel_rfl) ⟨trivial, trivial⟩ h
  · refine aw_block ?_
    refine aw_loop (σ := Int) (fun s => (⟨19, [(0, [], .v (.c (.p (.sl (.int .i64)) sv))), (1, [], .v (.c (.fn fv1 cv1))), (7, [], .v (.c (.p (.int .i64) (sv.length : Int)))), (8, [], .v (.c (.p (.int .i64) s)))], []⟩ : St)) (fun s X => VC73_l1 sv F1 K s X) (s0 := (0 : Int)) (fun v8 X1 h => ?_) h
    have h : VC73_l1 sv F1 K v8 X1 := h
    unfold VC73_l1 at h
    refine aw_seq ?_
    refine aw_region ?_
    refine awl_runp 1 [0, 1, 7, 8, 9] [] (ob := (True ∧ True)) (st' := (⟨19, [(0, [], .v (.c (.p (.sl (.int .i64)) sv))), (1, [], .v (.c (.fn fv1 cv1))), (7, [], .v (.c (.p (.int .i64) (sv.length : Int)))), (8, [], .v (.c (.p (.int .i64) v8))), (9, [], .v (.c (.p .bool (decide (v8 < (sv.length : Int))))))], []⟩ : St)) (by kernel_rfl) ⟨trivial, trivial⟩ ?_
    refine awl_nil ?_
    refine thenQ_n ?_
    refine aw_seq ?_
    refine aw_cond (b := (decide (v8 < (sv.length : Int)))) (by kernel_rfl) (fun hb => ?_) (fun hb => ?_)
    · have h := h.1 hb
      refine aw_skip ?_
      refine thenQ_n ?_
      refine aw_seq ?_
      refine aw_block ?_
      refine aw_seq ?_
      refine aw_region ?_
      refine awl_runp 2 [0, 1, 5, 7, 8] [] (ob := (True ∧ True ∧ True)) (st' := (⟨19, [(0, [], .v (.c (.p (.sl (.int .i64)) sv))), (1, [], .v (.c (.fn fv1 cv1))), (5, [], .v (.c (.p (.int .i64) v8))), (7, [], .v (.c (.p (.int .i64) (sv.length : Int)))), (8, [], .v (.c (.p (.int .i64) v8)))], []⟩ : St)) (by kernel_rfl) ⟨trivial, trivial, trivial⟩ ?_
      refine awl_nil ?_
      refine thenQ_n ?_
      refine aw_seq ?_
      refine aw_region ?_
      obtain ⟨o1, h⟩ := h
      refine awl_runp 5 [0, 1, 5, 7, 8, 11, 15] [] (ob := (True ∧ True ∧ True ∧ inIdx v8 sv.length ∧ True ∧ True)) (st' := (⟨19, [(0, [], .v (.c (.p (.sl (.int .i64)) sv))), (1, [], .v (.c (.fn fv1 cv1))), (5, [], .v (.c (.p (.int .i64) v8))), (7, [], .v (.c (.p (.int .i64) (sv.length : Int)))), (8, [], .v (.c (.p (.int .i64) v8))), (11, [], .v (.c (.fn fv1 cv1))), (15, [], .v (.c (.p (.int .i64) (sv.getD (v8).toNat (0 : Int)))))], []⟩ : St)) (by kernel_rfl) ⟨trivial, trivial, trivial, o1, trivial, trivial⟩ ?_
      refine awl_callk (p := []) (l := [toV1 (.int .i64) (sv.getD (v8).toNat (0 : Int))]) false [.d (.int .i64)] [0, 1, 5, 7, 8, 16] [] (fun (ret16v : Bool) => ((ret16v = true → K v8) ∧ (ret16v = false → (InR (v8 + (1 : Int)) ∧ X1 (v8 + (1 : Int)))))) (fun ret16v => [toV1 .bool ret16v]) (fun ret16v => (⟨19, [(0, [], .v (.c (.p (.sl (.int .i64)) sv))), (1, [], .v (.c (.fn fv1 cv1))), (5, [], .v (.c (.p (.int .i64) v8))), (7, [], .v (.c (.p (.int .i64) (sv.length : Int)))), (8, [], .v (.c (.p (.int .i64) v8))), (16, [], .v (.c (.p .bool ret16v)))], []⟩ : St)) (by kernel_rfl) rfl (by kernel_rfl) rfl (by kernel_rfl) hF1.1 (by kernel_rfl) (fun ret16v => by kernel_rfl) (fun e => by cases e) (fun hg => hF1.2 (sv.getD (v8).toNat (0 : Int)) _ h) (fun hg => noF hg) (fun ret16v h => ?_)
      have h : ((ret16v = true → K v8) ∧ (ret16v = false → (InR (v8 + (1 : Int)) ∧ X1 (v8 + (1 : Int))))) := h
      refine awl_nil ?_
      refine thenQ_n ?_
      refine aw_cond (b := ret16v) (by kernel_rfl) (fun hb => ?_) (fun hb => ?_)
      · have h := h.1 hb
        refine aw_seq ?_
        refine aw_region ?_
        refine awl_runp 2 [4] [] (ob := (True ∧ True ∧ True)) (st' := (⟨19, [(4, [], .v (.c (.p (.int .i64) v8)))], []⟩ : St)) (by kernel_rfl) ⟨trivial, trivial, trivial⟩ ?_
        refine awl_nil ?_
        refine thenQ_n ?_
        refine aw_ret ?_
        refine blockQ_r ?_
        refine thenQ_r ?_
        refine thenQ_r ?_
        refine blockQ_r ?_
        refine thenQ_r ?_
        exact retQ_r (σ := Int) (R := (fun y => [toV1 (.int .i64) y])) (ob := (True ∧ True)) v8 (by kernel_rfl) ⟨trivial, trivial⟩ h
      · have h := h.2 hb
        refine aw_skip ?_
        refine blockQ_n ?_
        refine thenQ_n ?_
        refine aw_region ?_
        obtain ⟨o1, h⟩ := h
        refine awl_runp 2 [0, 1, 7, 8] [] (ob := (InR (v8 + (1 : Int)) ∧ True ∧ True)) (st' := (⟨19, [(0, [], .v (.c (.p (.sl (.int .i64)) sv))), (1, [], .v (.c (.fn fv1 cv1))), (7, [], .v (.c (.p (.int .i64) (sv.length : Int)))), (8, [], .v (.c (.p (.int .i64) (v8 + (1 : Int)))))], []⟩ : St)) (by kernel_rfl) ⟨o1, trivial, trivial⟩ ?_
        refine awl_nil ?_
        exact thenQ_n ⟨(v8 + (1 : Int)), rfl, h⟩
    · have h := h.2 hb
      refine aw_conv [.prune [] []] (st' := (⟨19, [], []⟩ : St)) (by kernel_rfl) ?_
      refine aw_exit ?_
      refine thenQ_x ?_
      refine thenQ_x ?_
      refine blockQ_hit ?_
      exact rest1 () h

-- slices.ContainsFunc[[]int,int]
def VC65 (sv : (List Int)) (F1 : Int → (Bool → Prop) → Prop) (K : Bool → Prop) : Prop :=
  VC73 sv F1 (fun (ret7v : Int) => K (decide ((0 : Int) ≤ ret7v)))

set_option maxHeartbeats 4000000 in
theorem link65 (sv : (List Int)) (fv1 : FuncId) (cv1 : List Dat) (F1 : Int → (Bool → Prop) → Prop) (hF1 : FnIs Try.prog fv1 cv1 (fun (x : Int) => [toV1 (.int .i64) x]) (fun (y : Bool) => [toV1 .bool y]) F1) (K : Bool → Prop) (h : VC65 sv F1 K) : ACalls Try.prog 65 [toV1 (.sl (.int .i64)) sv, .c (.fn fv1 cv1)] (fun res => ∃ y, res = (fun y => [toV1 .bool y]) y ∧ K y) := by
  refine acalls_of_aw [.bool] [.t 4] Try.func65 rfl rfl rfl ?_
  unfold VC65 at h
  refine aw_seq ?_
  refine aw_region ?_
  refine awl_runp 1 [0, 1] [] (ob := (True ∧ True)) (st' := (⟨9, [(0, [], .v (.c (.p (.sl (.int .i64)) sv))), (1, [], .v (.c (.fn fv1 cv1)))], []⟩ : St)) (by kernel_rfl) ⟨trivial, trivial⟩ ?_
  refine awl_nil ?_
  refine thenQ_n ?_
  refine aw_seq ?_
  refine aw_region ?_
  refine awl_runp 2 [5, 6] [] (ob := (True ∧ True ∧ True)) (st' := (⟨9, [(5, [], .v (.c (.p (.sl (.int .i64)) sv))), (6, [], .v (.c (.fn fv1 cv1)))], []⟩ : St)) (by kernel_rfl) ⟨trivial, trivial, trivial⟩ ?_
  refine awl_callk (p := []) (l := [toV1 (.sl (.int .i64)) sv, .c (.fn fv1 cv1)]) (cl := []) false [.d (.sl (.int .i64)), .fn] [7] [] (fun (ret7v : Int) => K (decide ((0 : Int) ≤ ret7v))) (fun ret7v => [toV1 (.int .i64) ret7v]) (fun ret7v => (⟨9, [(7, [], .v (.c (.p (.int .i64) ret7v)))], []⟩ : St)) (by kernel_rfl) rfl (by kernel_rfl) rfl (by kernel_rfl) Try.call73 (by kernel_rfl) (fun ret7v => by kernel_rfl) (fun e => by cases e) (fun hg => link73 sv fv1 cv1 F1 hF1 _ h) (fun hg => noF hg) (fun ret7v h => ?_)
  have h : K (decide ((0 : Int) ≤ ret7v)) := h
  refine awl_runp 2 [4] [] (ob := (True ∧ True ∧ True)) (st' := (⟨9, [(4, [], .v (.c (.p .bool (decide ((0 : Int) ≤ ret7v)))))], []⟩ : St)) (by kernel_rfl) ⟨trivial, trivial, trivial⟩ ?_
  refine awl_nil ?_
  refine thenQ_n ?_
  refine aw_ret ?_
  exact retQ_r (σ := Bool) (R := (fun y => [toV1 .bool y])) (ob := (True ∧ True)) (decide ((0 : Int) ≤ ret7v)) (by kernel_rfl) ⟨trivial, trivial⟩ h

-- coppicer/machine.Word
def VC41 (k : Int) (w : (List Int)) (K : Int → Prop) : Prop :=
  (((decide ((12 : Int) < (w.length : Int))) = true → K (1 : Int)) ∧ ((decide ((12 : Int) < (w.length : Int))) = false → VC65 w (fun (x : Int) (K : Bool → Prop) => VC66 x k K) (fun (ret10v : Bool) => ((ret10v = true → K (2 : Int)) ∧ (ret10v = false → K (0 : Int))))))

set_option maxHeartbeats 4000000 in
theorem link41 (k : Int) (w : (List Int)) (K : Int → Prop) (h : VC41 k w K) : ACalls Try.prog 41 [toV1 (.int .i64) k, toV1 (.sl (.int .i64)) w] (fun res => ∃ y, res = (fun y => [toV1 (.int .i64) y]) y ∧ K y) := by
  refine acalls_of_aw [(.int .i64)] [.t 4] Try.func41 rfl rfl rfl ?_
  unfold VC41 at h
  refine aw_seq ?_
  refine aw_region ?_
  refine awl_runp 2 [1, 2] [2] (ob := (True ∧ True ∧ True)) (st' := (⟨11, [(1, [], .v (.c (.p (.sl (.int .i64)) w))), (2, [], .v (.c (.ptr 2 0)))], [(2, [], .box [.p (.int .i64) k])]⟩ : St)) (by kernel_rfl) ⟨trivial, trivial, trivial⟩ ?_
  refine awl_nil ?_
  refine thenQ_n ?_
  refine aw_seq ?_
  refine aw_seq ?_
  refine aw_region ?_
  refine awl_runp 3 [1, 2, 7] [2] (ob := (True ∧ True ∧ True ∧ True)) (st' := (⟨11, [(1, [], .v (.c (.p (.sl (.int .i64)) w))), (2, [], .v (.c (.ptr 2 0))), (7, [], .v (.c (.p .bool (decide ((12 : Int) < (w.length : Int))))))], [(2, [], .box [.p (.int .i64) k])]⟩ : St)) (by kernel_rfl) ⟨trivial, trivial, trivial, trivial⟩ ?_
  refine awl_nil ?_
  refine thenQ_n ?_
  refine aw_cond (b := (decide ((12 : Int) < (w.length : Int)))) (by kernel_rfl) (fun hb => ?_) (fun hb => ?_)
  · have h := h.1 hb
    refine aw_seq ?_
    refine aw_region ?_
    refine awl_runp 1 [4] [] (ob := (True ∧ True)) (st' := (⟨11, [(4, [], .v (.c (.p (.int .i64) (1 : Int))))], []⟩ : St)) (by kernel_rfl) ⟨trivial, trivial⟩ ?_
    refine awl_nil ?_
    refine thenQ_n ?_
    refine aw_ret ?_
    refine thenQ_r ?_
    exact retQ_r (σ := Int) (R := (fun y => [toV1 (.int .i64) y])) (ob := (True ∧ True)) (1 : Int) (by kernel_rfl) ⟨trivial, trivial⟩ h
  · have h := h.2 hb
    refine aw_skip ?_
    refine thenQ_n ?_
    refine aw_seq ?_
    refine aw_seq ?_
    refine aw_region ?_
    refine awl_runp 1 [2, 8] [2] (ob := (True ∧ True)) (st' := (⟨11, [(2, [], .v (.c (.ptr 2 0))), (8, [], .v (.c (.p (.sl (.int .i64)) w)))], [(2, [], .box [.p (.int .i64) k])]⟩ : St)) (by kernel_rfl) ⟨trivial, trivial⟩ ?_
    refine awl_conv [.freezeB 2 (.int .i64)] (st' := (⟨11, [(2, [], .v (.c (.ad (.int .i64) k))), (8, [], .v (.c (.p (.sl (.int .i64)) w)))], []⟩ : St)) (by kernel_rfl) ?_
    refine awl_runp 1 [8, 9] [] (ob := (True ∧ True)) (st' := (⟨11, [(8, [], .v (.c (.p (.sl (.int .i64)) w))), (9, [], .v (.c (.fn 66 [(⟨(.int .i64), k⟩ : Dat)])))], []⟩ : St)) (by kernel_rfl) ⟨trivial, trivial⟩ ?_
    refine awl_callk (p := []) (l := [toV1 (.sl (.int .i64)) w, .c (.fn 66 [(⟨(.int .i64), k⟩ : Dat)])]) (cl := []) false [.d (.sl (.int .i64)), .fn] [10] [] (fun (ret10v : Bool) => ((ret10v = true → K (2 : Int)) ∧ (ret10v = false → K (0 : Int)))) (fun ret10v => [toV1 .bool ret10v]) (fun ret10v => (⟨11, [(10, [], .v (.c (.p .bool ret10v)))], []⟩ : St)) (by kernel_rfl) rfl (by kernel_rfl) rfl (by kernel_rfl) Try.call65 (by kernel_rfl) (fun ret10v => by kernel_rfl) (fun e => by cases e) (fun hg => link65 w 66 [(⟨(.int .i64), k⟩ : Dat)] (fun (x : Int) (K : Bool → Prop) => VC66 x k K) ⟨Try.call66, fun x K h => link66 x k K h⟩ _ h) (fun hg => noF hg) (fun ret10v h => ?_)
    have h : ((ret10v = true → K (2 : Int)) ∧ (ret10v = false → K (0 : Int))) := h
    refine awl_nil ?_
    refine thenQ_n ?_
    refine aw_cond (b := ret10v) (by kernel_rfl) (fun hb => ?_) (fun hb => ?_)
    · have h := h.1 hb
      refine aw_seq ?_
      refine aw_region ?_
      refine awl_runp 1 [4] [] (ob := (True ∧ True)) (st' := (⟨11, [(4, [], .v (.c (.p (.int .i64) (2 : Int))))], []⟩ : St)) (by kernel_rfl) ⟨trivial, trivial⟩ ?_
      refine awl_nil ?_
      refine thenQ_n ?_
      refine aw_ret ?_
      refine thenQ_r ?_
      exact retQ_r (σ := Int) (R := (fun y => [toV1 (.int .i64) y])) (ob := (True ∧ True)) (2 : Int) (by kernel_rfl) ⟨trivial, trivial⟩ h
    · have h := h.2 hb
      refine aw_skip ?_
      refine thenQ_n ?_
      refine aw_seq ?_
      refine aw_region ?_
      refine awl_runp 1 [4] [] (ob := (True ∧ True)) (st' := (⟨11, [(4, [], .v (.c (.p (.int .i64) (0 : Int))))], []⟩ : St)) (by kernel_rfl) ⟨trivial, trivial⟩ ?_
      refine awl_nil ?_
      refine thenQ_n ?_
      refine aw_ret ?_
      exact retQ_r (σ := Int) (R := (fun y => [toV1 (.int .i64) y])) (ob := (True ∧ True)) (0 : Int) (by kernel_rfl) ⟨trivial, trivial⟩ h

-- coppicer/machine.Has
def VC42 (setv : Int) (n : Int) (K : Bool → Prop) : Prop :=
  ((0 ≤ setv ∧ 0 ≤ n) ∧ K (decide ((bAnd .u32 (bShr .u32 setv n) (1 : Int)) = (1 : Int))))

set_option maxHeartbeats 4000000 in
theorem link42 (setv : Int) (n : Int) (K : Bool → Prop) (h : VC42 setv n K) : ACalls Try.prog 42 [toV1 (.int .u32) setv, toV1 (.int .i64) n] (fun res => ∃ y, res = (fun y => [toV1 .bool y]) y ∧ K y) := by
  refine acalls_of_aw [.bool] [.t 4] Try.func42 rfl rfl rfl ?_
  unfold VC42 at h
  refine aw_seq ?_
  refine aw_region ?_
  refine awl_runp 1 [0, 1] [] (ob := (True ∧ True)) (st' := (⟨10, [(0, [], .v (.c (.p (.int .u32) setv))), (1, [], .v (.c (.p (.int .i64) n)))], []⟩ : St)) (by kernel_rfl) ⟨trivial, trivial⟩ ?_
  refine awl_nil ?_
  refine thenQ_n ?_
  refine aw_seq ?_
  refine aw_region ?_
  obtain ⟨o1, h⟩ := h
  refine awl_runp 6 [4] [] (ob := (True ∧ True ∧ (0 ≤ setv ∧ 0 ≤ n) ∧ True ∧ True ∧ True ∧ True)) (st' := (⟨10, [(4, [], .v (.c (.p .bool (decide ((bAnd .u32 (bShr .u32 setv n) (1 : Int)) = (1 : Int))))))], []⟩ : St)) (by kernel_rfl) ⟨trivial, trivial, o1, trivial, trivial, trivial, trivial⟩ ?_
  refine awl_nil ?_
  refine thenQ_n ?_
  refine aw_ret ?_
  exact retQ_r (σ := Bool) (R := (fun y => [toV1 .bool y])) (ob := (True ∧ True)) (decide ((bAnd .u32 (bShr .u32 setv n) (1 : Int)) = (1 : Int))) (by kernel_rfl) ⟨trivial, trivial⟩ h

-- coppicer/machine.Run
def VC15_k1 (m : (Int × (Int × ((List (List Int)) × (Int × Int))))) (K : Int × Bool × Int → Prop) (atv : Int) : Prop :=
  VC42 m.2.2.2.2 atv (fun (ret45v : Bool) => K (atv, ret45v, (0 : Int)))

def VC15_l1 (m : (Int × (Int × ((List (List Int)) × (Int × Int))))) (w : (List Int)) (K : Int × Bool × Int → Prop) (atv : Int) (v28 : Int) (X1 : Int × Int → Prop) : Prop :=
  (((decide (v28 < (w.length : Int))) = true → (inIdx v28 w.length ∧ (inIdx atv m.2.2.1.length ∧ inIdx (w.getD (v28).toNat (0 : Int)) (m.2.2.1.getD (atv).toNat ([] : (List Int))).length ∧ (InR (v28 + (1 : Int)) ∧ X1 (((m.2.2.1.getD (atv).toNat ([] : (List Int))).getD ((w.getD (v28).toNat (0 : Int))).toNat (0 : Int)), (v28 + (1 : Int))))))) ∧ ((decide (v28 < (w.length : Int))) = false → VC15_k1 m K atv))

def VC15 (m : (Int × (Int × ((List (List Int)) × (Int × Int))))) (w : (List Int)) (K : Int × Bool × Int → Prop) : Prop :=
  VC40 m (fun (ret13v : Int) => (((!decide (ret13v = (0 : Int))) = true → K ((0 : Int), false, ret13v)) ∧ ((!decide (ret13v = (0 : Int))) = false → VC41 m.2.1 w (fun (ret20v : Int) => (((!decide (ret20v = (0 : Int))) = true → K ((0 : Int), false, ret20v)) ∧ ((!decide (ret20v = (0 : Int))) = false → Loop (σ := Int × Int) (fun s X => VC15_l1 m w K s.1 s.2 X) (m.2.2.2.1, (0 : Int))))))))

set_option maxHeartbeats 4000000 in
theorem link15 (m : (Int × (Int × ((List (List Int)) × (Int × Int))))) (w : (List Int)) (K : Int × Bool × Int → Prop) (h : VC15 m w K) : ACalls Try.prog 15 [toV1 (.pr (.int .i64) (.pr (.int .i64) (.pr (.sl (.sl (.int .i64))) (.pr (.int .i64) (.int .u32))))) m, toV1 (.sl (.int .i64)) w] (fun res => ∃ y, res = (fun y => [toV1 (.int .i64) y.1, toV1 .bool y.2.1, toV1 (.int .i64) y.2.2]) y ∧ K y) := by
  refine acalls_of_aw [(.int .i64), .bool, (.int .i64)] [.t 4, .t 5, .t 6] Try.func15 rfl rfl rfl ?_
  unfold VC15 at h
  refine aw_seq ?_
  refine aw_region ?_
  refine awl_runp 4 [1, 2] [2] (ob := (True ∧ True ∧ True ∧ True ∧ True)) (st' := (⟨46, [(1, [], .v (.c (.p (.sl (.int .i64)) w))), (2, [], .v (.c (.ptr 2 0)))], [(2, [], .box [.p (.int .i64) m.1, .p (.int .i64) m.2.1, .p (.sl (.sl (.int .i64))) m.2.2.1, .p (.int .i64) m.2.2.2.1, .p (.int .u32) m.2.2.2.2])]⟩ : St)) (by kernel_rfl) ⟨trivial, trivial, trivial, trivial, trivial⟩ ?_
  refine awl_nil ?_
  refine thenQ_n ?_
  refine aw_seq ?_
  refine aw_seq ?_
  refine aw_region ?_
  refine awl_runp 1 [1, 2, 12] [2] (ob := (True ∧ True)) (st' := (⟨46, [(1, [], .v (.c (.p (.sl (.int .i64)) w))), (2, [], .v (.c (.ptr 2 0))), (12, [], .v (.agg [.p (.int .i64) m.1, .p (.int .i64) m.2.1, .p (.sl (.sl (.int .i64))) m.2.2.1, .p (.int .i64) m.2.2.2.1, .p (.int .u32) m.2.2.2.2]))], [(2, [], .box [.p (.int .i64) m.1, .p (.int .i64) m.2.1, .p (.sl (.sl (.int .i64))) m.2.2.1, .p (.int .i64) m.2.2.2.1, .p (.int .u32) m.2.2.2.2])]⟩ : St)) (by kernel_rfl) ⟨trivial, trivial⟩ ?_
  refine awl_callk (p := []) (l := [toV1 (.pr (.int .i64) (.pr (.int .i64) (.pr (.sl (.sl (.int .i64))) (.pr (.int .i64) (.int .u32))))) m]) (cl := []) false [.d (.pr (.int .i64) (.pr (.int .i64) (.pr (.sl (.sl (.int .i64))) (.pr (.int .i64) (.int .u32)))))] [1, 2, 13] [2] (fun (ret13v : Int) => (((!decide (ret13v = (0 : Int))) = true → K ((0 : Int), false, ret13v)) ∧ ((!decide (ret13v = (0 : Int))) = false → VC41 m.2.1 w (fun (ret20v : Int) => (((!decide (ret20v = (0 : Int))) = true → K ((0 : Int), false, ret20v)) ∧ ((!decide (ret20v = (0 : Int))) = false → Loop (σ := Int × Int) (fun s X => VC15_l1 m w K s.1 s.2 X) (m.2.2.2.1, (0 : Int)))))))) (fun ret13v => [toV1 (.int .i64) ret13v]) (fun ret13v => (⟨46, [(1, [], .v (.c (.p (.sl (.int .i64)) w))), (2, [], .v (.c (.ptr 2 0))), (13, [], .v (.c (.p (.int .i64) ret13v)))], [(2, [], .box [.p (.int .i64) m.1, .p (.int .i64) m.2.1, .p (.sl (.sl (.int .i64))) m.2.2.1, .p (.int .i64) m.2.2.2.1, .p (.int .u32) m.2.2.2.2])]⟩ : St)) (by kernel_rfl) rfl (by kernel_rfl) rfl (by kernel_rfl) Try.call40 (by kernel_rfl) (fun ret13v => by kernel_rfl) (fun e => by cases e) (fun hg => link40 m _ h) (fun hg => noF hg) (fun ret13v h => ?_)
  have h : (((!decide (ret13v = (0 : Int))) = true → K ((0 : Int), false, ret13v)) ∧ ((!decide (ret13v = (0 : Int))) = false → VC41 m.2.1 w (fun (ret20v : Int) => (((!decide (ret20v = (0 : Int))) = true → K ((0 : Int), false, ret20v)) ∧ ((!decide (ret20v = (0 : Int))) = false → Loop (σ := Int × Int) (fun s X => VC15_l1 m w K s.1 s.2 X) (m.2.2.2.1, (0 : Int))))))) := h
  refine awl_runp 1 [1, 2, 7] [2] (ob := (True ∧ True)) (st' := (⟨46, [(1, [], .v (.c (.p (.sl (.int .i64)) w))), (2, [], .v (.c (.ptr 2 0))), (7, [], .v (.c (.p (.int .i64) ret13v)))], [(2, [], .box [.p (.int .i64) m.1, .p (.int .i64) m.2.1, .p (.sl (.sl (.int .i64))) m.2.2.1, .p (.int .i64) m.2.2.2.1, .p (.int .u32) m.2.2.2.2])]⟩ : St)) (by kernel_rfl) ⟨trivial, trivial⟩ ?_
  refine awl_nil ?_
  refine thenQ_n ?_
  refine aw_seq ?_
  refine aw_region ?_
  refine awl_runp 2 [1, 2, 7, 15] [2] (ob := (True ∧ True ∧ True)) (st' := (⟨46, [(1, [], .v (.c (.p (.sl (.int .i64)) w))), (2, [], .v (.c (.ptr 2 0))), (7, [], .v (.c (.p (.int .i64) ret13v))), (15, [], .v (.c (.p .bool (!decide (ret13v = (0 : Int))))))], [(2, [], .box [.p (.int .i64) m.1, .p (.int .i64) m.2.1, .p (.sl (.sl (.int .i64))) m.2.2.1, .p (.int .i64) m.2.2.2.1, .p (.int .u32) m.2.2.2.2])]⟩ : St)) (by kernel_rfl) ⟨trivial, trivial, trivial⟩ ?_
  refine awl_nil ?_
  refine thenQ_n ?_
  refine aw_cond (b := (!decide (ret13v = (0 : Int)))) (by kernel_rfl) (fun hb => ?_) (fun hb => ?_)
  · have h := h.1 hb
    refine aw_seq ?_
    refine aw_region ?_
    refine awl_runp 4 [4, 5, 6] [] (ob := (True ∧ True ∧ True ∧ True ∧ True)) (st' := (⟨46, [(4, [], .v (.c (.p (.int .i64) (0 : Int)))), (5, [], .v (.c (.p .bool false))), (6, [], .v (.c (.p (.int .i64) ret13v)))], []⟩ : St)) (by kernel_rfl) ⟨trivial, trivial, trivial, trivial, trivial⟩ ?_
    refine awl_nil ?_
    refine thenQ_n ?_
    refine aw_ret ?_
    refine thenQ_r ?_
    exact retQ_r (σ := Int × Bool × Int) (R := (fun y => [toV1 (.int .i64) y.1, toV1 .bool y.2.1, toV1 (.int .i64) y.2.2])) (ob := (True ∧ True ∧ True ∧ True)) ((0 : Int), false, ret13v) (by kernel_rfl) ⟨trivial, trivial, trivial, trivial⟩ h
  · have h := h.2 hb
    refine aw_skip ?_
    refine thenQ_n ?_
    refine aw_seq ?_
    refine aw_seq ?_
    refine aw_region ?_
    refine awl_runp 3 [1, 2, 18, 19] [2] (ob := (True ∧ True ∧ True ∧ True)) (st' := (⟨46, [(1, [], .v (.c (.p (.sl (.int .i64)) w))), (2, [], .v (.c (.ptr 2 0))), (18, [], .v (.c (.p (.int .i64) m.2.1))), (19, [], .v (.c (.p (.sl (.int .i64)) w)))], [(2, [], .box [.p (.int .i64) m.1, .p (.int .i64) m.2.1, .p (.sl (.sl (.int .i64))) m.2.2.1, .p (.int .i64) m.2.2.2.1, .p (.int .u32) m.2.2.2.2])]⟩ : St)) (by kernel_rfl) ⟨trivial, trivial, trivial, trivial⟩ ?_
    refine awl_callk (p := []) (l := [toV1 (.int .i64) m.2.1, toV1 (.sl (.int .i64)) w]) (cl := []) false [.d (.int .i64), .d (.sl (.int .i64))] [1, 2, 20] [2] (fun (ret20v : Int) => (((!decide (ret20v = (0 : Int))) = true → K ((0 : Int), false, ret20v)) ∧ ((!decide (ret20v = (0 : Int))) = false → Loop (σ := Int × Int) (fun s X => VC15_l1 m w K s.1 s.2 X) (m.2.2.2.1, (0 : Int))))) (fun ret20v => [toV1 (.int .i64) ret20v]) (fun ret20v => (⟨46, [(1, [], .v (.c (.p (.sl (.int .i64)) w))), (2, [], .v (.c (.ptr 2 0))), (20, [], .v (.c (.p (.int .i64) ret20v)))], [(2, [], .box [.p (.int .i64) m.1, .p (.int .i64) m.2.1, .p (.sl (.sl (.int .i64))) m.2.2.1, .p (.int .i64) m.2.2.2.1, .p (.int .u32) m.2.2.2.2])]⟩ : St)) (by kernel_rfl) rfl (by kernel_rfl) rfl (by kernel_rfl) Try.call41 (by kernel_rfl) (fun ret20v => by kernel_rfl) (fun e => by cases e) (fun hg => link41 m.2.1 w _ h) (fun hg => noF hg) (fun ret20v h => ?_)
    have h : (((!decide (ret20v = (0 : Int))) = true → K ((0 : Int), false, ret20v)) ∧ ((!decide (ret20v = (0 : Int))) = false → Loop (σ := Int × Int) (fun s X => VC15_l1 m w K s.1 s.2 X) (m.2.2.2.1, (0 : Int)))) := h
    refine awl_runp 1 [1, 2, 8] [2] (ob := (True ∧ True)) (st' := (⟨46, [(1, [], .v (.c (.p (.sl (.int .i64)) w))), (2, [], .v (.c (.ptr 2 0))), (8, [], .v (.c (.p (.int .i64) ret20v)))], [(2, [], .box [.p (.int .i64) m.1, .p (.int .i64) m.2.1, .p (.sl (.sl (.int .i64))) m.2.2.1, .p (.int .i64) m.2.2.2.1, .p (.int .u32) m.2.2.2.2])]⟩ : St)) (by kernel_rfl) ⟨trivial, trivial⟩ ?_
    refine awl_nil ?_
    refine thenQ_n ?_
    refine aw_seq ?_
    refine aw_region ?_
    refine awl_runp 2 [1, 2, 8, 22] [2] (ob := (True ∧ True ∧ True)) (st' := (⟨46, [(1, [], .v (.c (.p (.sl (.int .i64)) w))), (2, [], .v (.c (.ptr 2 0))), (8, [], .v (.c (.p (.int .i64) ret20v))), (22, [], .v (.c (.p .bool (!decide (ret20v = (0 : Int))))))], [(2, [], .box [.p (.int .i64) m.1, .p (.int .i64) m.2.1, .p (.sl (.sl (.int .i64))) m.2.2.1, .p (.int .i64) m.2.2.2.1, .p (.int .u32) m.2.2.2.2])]⟩ : St)) (by kernel_rfl) ⟨trivial, trivial, trivial⟩ ?_
    refine awl_nil ?_
    refine thenQ_n ?_
    refine aw_cond (b := (!decide (ret20v = (0 : Int)))) (by kernel_rfl) (fun hb => ?_) (fun hb => ?_)
    · have h := h.1 hb
      refine aw_seq ?_
      refine aw_region ?_
      refine awl_runp 4 [4, 5, 6] [] (ob := (True ∧ True ∧ True ∧ True ∧ True)) (st' := (⟨46, [(4, [], .v (.c (.p (.int .i64) (0 : Int)))), (5, [], .v (.c (.p .bool false))), (6, [], .v (.c (.p (.int .i64) ret20v)))], []⟩ : St)) (by kernel_rfl) ⟨trivial, trivial, trivial, trivial, trivial⟩ ?_
      refine awl_nil ?_
      refine thenQ_n ?_
      refine aw_ret ?_
      refine thenQ_r ?_
      exact retQ_r (σ := Int × Bool × Int) (R := (fun y => [toV1 (.int .i64) y.1, toV1 .bool y.2.1, toV1 (.int .i64) y.2.2])) (ob := (True ∧ True ∧ True ∧ True)) ((0 : Int), false, ret20v) (by kernel_rfl) ⟨trivial, trivial, trivial, trivial⟩ h
    · have h := h.2 hb
      refine aw_skip ?_
      refine thenQ_n ?_
      refine aw_seq ?_
      refine aw_region ?_
      refine awl_runp 3 [1, 2, 9] [2] (ob := (True ∧ True ∧ True ∧ True)) (st' := (⟨46, [(1, [], .v (.c (.p (.sl (.int .i64)) w))), (2, [], .v (.c (.ptr 2 0))), (9, [], .v (.c (.p (.int .i64) m.2.2.2.1)))], [(2, [], .box [.p (.int .i64) m.1, .p (.int .i64) m.2.1, .p (.sl (.sl (.int .i64))) m.2.2.1, .p (.int .i64) m.2.2.2.1, .p (.int .u32) m.2.2.2.2])]⟩ : St)) (by kernel_rfl) ⟨trivial, trivial, trivial, trivial⟩ ?_
      refine awl_nil ?_
      refine thenQ_n ?_
      refine aw_seq ?_
      refine aw_seq ?_
      refine aw_region ?_
      refine awl_runp 3 [2, 9, 26, 27, 28] [2] (ob := (True ∧ True ∧ True ∧ True)) (st' := (⟨46, [(2, [], .v (.c (.ptr 2 0))), (9, [], .v (.c (.p (.int .i64) m.2.2.2.1))), (26, [], .v (.c (.p (.sl (.int .i64)) w))), (27, [], .v (.c (.p (.int .i64) (w.length : Int)))), (28, [], .v (.c (.p (.int .i64) (0 : Int))))], [(2, [], .box [.p (.int .i64) m.1, .p (.int .i64) m.2.1, .p (.sl (.sl (.int .i64))) m.2.2.1, .p (.int .i64) m.2.2.2.1, .p (.int .u32) m.2.2.2.2])]⟩ : St)) (by kernel_rfl) ⟨trivial, trivial, trivial, trivial⟩ ?_
      refine awl_nil ?_
      refine thenQ_n ?_
      refine withJoin (σ := Int) (fun s => (⟨46, [(2, [], .v (.c (.ptr 2 0))), (9, [], .v (.c (.p (.int .i64) s)))], [(2, [], .box [.p (.int .i64) m.1, .p (.int .i64) m.2.1, .p (.sl (.sl (.int .i64))) m.2.2.1, .p (.int .i64) m.2.2.2.1, .p (.int .u32) m.2.2.2.2])]⟩ : St)) (fun s => VC15_k1 m K s) (fun atv h => ?_) (fun rest1 => ?_)
      · have h : VC15_k1 m K atv := h
        unfold VC15_k1 at h
        refine thenQ_n ?_
        refine aw_seq ?_
        refine aw_region ?_
        refine awl_runp 4 [41, 43, 44] [] (ob := (True ∧ True ∧ True ∧ True ∧ True)) (st' := (⟨46, [(41, [], .v (.c (.p (.int .i64) atv))), (43, [], .v (.c (.p (.int .u32) m.2.2.2.2))), (44, [], .v (.c (.p (.int .i64) atv)))], []⟩ : St)) (by kernel_rfl) ⟨trivial, trivial, trivial, trivial, trivial⟩ ?_
        refine awl_callk (p := []) (l := [toV1 (.int .u32) m.2.2.2.2, toV1 (.int .i64) atv]) (cl := []) false [.d (.int .u32), .d (.int .i64)] [41, 45] [] (fun (ret45v : Bool) => K (atv, ret45v, (0 : Int))) (fun ret45v => [toV1 .bool ret45v]) (fun ret45v => (⟨46, [(41, [], .v (.c (.p (.int .i64) atv))), (45, [], .v (.c (.p .bool ret45v)))], []⟩ : St)) (by kernel_rfl) rfl (by kernel_rfl) rfl (by kernel_rfl) Try.call42 (by kernel_rfl) (fun ret45v => by kernel_rfl) (fun e => by cases e) (fun hg => link42 m.2.2.2.2 atv _ h) (fun hg => noF hg) (fun ret45v h => ?_)
        have h : K (atv, ret45v, (0 : Int)) := h
        refine awl_runp 3 [4, 5, 6] [] (ob := (True ∧ True ∧ True ∧ True)) (st' := (⟨46, [(4, [], .v (.c (.p (.int .i64) atv))), (5, [], .v (.c (.p .bool ret45v))), (6, [], .v (.c (.p (.int .i64) (0 : Int))))], []⟩ : St)) (by kernel_rfl) ⟨trivial, trivial, trivial, trivial⟩ ?_
        refine awl_nil ?_
        refine thenQ_n ?_
        refine aw_ret ?_
        exact retQ_r (σ := Int × Bool × Int) (R := (fun y => [toV1 (.int .i64) y.1, toV1 .bool y.2.1, toV1 (.int .i64) y.2.2])) (ob := (True ∧ True ∧ True ∧ True)) (atv, ret45v, (0 : Int)) (by kernel_rfl) ⟨trivial, trivial, trivial, trivial⟩ h
      · refine aw_block ?_
        refine aw_loop (σ := Int × Int) (fun s => (⟨46, [(2, [], .v (.c (.ptr 2 0))), (9, [], .v (.c (.p (.int .i64) s.1))), (26, [], .v (.c (.p (.sl (.int .i64)) w))), (27, [], .v (.c (.p (.int .i64) (w.length : Int)))), (28, [], .v (.c (.p (.int .i64) s.2)))], [(2, [], .box [.p (.int .i64) m.1, .p (.int .i64) m.2.1, .p (.sl (.sl (.int .i64))) m.2.2.1, .p (.int .i64) m.2.2.2.1, .p (.int .u32) m.2.2.2.2])]⟩ : St)) (fun s X => VC15_l1 m w K s.1 s.2 X) (s0 := (m.2.2.2.1, (0 : Int))) (fun s X1 h => ?_) h
        obtain ⟨atv, v28⟩ := s
        have h : VC15_l1 m w K atv v28 X1 := h
        unfold VC15_l1 at h
        refine aw_seq ?_
        refine aw_region ?_
        refine awl_runp 1 [2, 9, 26, 27, 28, 29] [2] (ob := (True ∧ True)) (st' := (⟨46, [(2, [], .v (.c (.ptr 2 0))), (9, [], .v (.c (.p (.int .i64) atv))), (26, [], .v (.c (.p (.sl (.int .i64)) w))), (27, [], .v (.c (.p (.int .i64) (w.length : Int)))), (28, [], .v (.c (.p (.int .i64) v28))), (29, [], .v (.c (.p .bool (decide (v28 < (w.length : Int))))))], [(2, [], .box [.p (.int .i64) m.1, .p (.int .i64) m.2.1, .p (.sl (.sl (.int .i64))) m.2.2.1, .p (.int .i64) m.2.2.2.1, .p (.int .u32) m.2.2.2.2])]⟩ : St)) (by kernel_rfl) ⟨trivial, trivial⟩ ?_
        refine awl_nil ?_
        refine thenQ_n ?_
        refine aw_seq ?_
        refine aw_cond (b := (decide (v28 < (w.length : Int)))) (by kernel_rfl) (fun hb => ?_) (fun hb => ?_)
        · have h := h.1 hb
          refine aw_skip ?_
          refine thenQ_n ?_
          refine aw_seq ?_
          refine aw_block ?_
          refine aw_seq ?_
          refine aw_region ?_
          obtain ⟨o1, h⟩ := h
          refine awl_runp 3 [2, 9, 11, 26, 27, 28] [2] (ob := (inIdx v28 w.length ∧ True ∧ True ∧ True)) (st' := (⟨46, [(2, [], .v (.c (.ptr 2 0))), (9, [], .v (.c (.p (.int .i64) atv))), (11, [], .v (.c (.p (.int .i64) (w.getD (v28).toNat (0 : Int))))), (26, [], .v (.c (.p (.sl (.int .i64)) w))), (27, [], .v (.c (.p (.int .i64) (w.length : Int)))), (28, [], .v (.c (.p (.int .i64) v28)))], [(2, [], .box [.p (.int .i64) m.1, .p (.int .i64) m.2.1, .p (.sl (.sl (.int .i64))) m.2.2.1, .p (.int .i64) m.2.2.2.1, .p (.int .u32) m.2.2.2.2])]⟩ : St)) (by kernel_rfl) ⟨o1, trivial, trivial, trivial⟩ ?_
          refine awl_nil ?_
          refine thenQ_n ?_
          refine aw_region ?_
          obtain ⟨o1, o2, h⟩ := h
          refine awl_runp 9 [2, 9, 26, 27, 28] [2] (ob := (True ∧ True ∧ True ∧ inIdx atv m.2.2.1.length ∧ True ∧ True ∧ inIdx (w.getD (v28).toNat (0 : Int)) (m.2.2.1.getD (atv).toNat ([] : (List Int))).length ∧ True ∧ True ∧ True)) (st' := (⟨46, [(2, [], .v (.c (.ptr 2 0))), (9, [], .v (.c (.p (.int .i64) ((m.2.2.1.getD (atv).toNat ([] : (List Int))).getD ((w.getD (v28).toNat (0 : Int))).toNat (0 : Int))))), (26, [], .v (.c (.p (.sl (.int .i64)) w))), (27, [], .v (.c (.p (.int .i64) (w.length : Int)))), (28, [], .v (.c (.p (.int .i64) v28)))], [(2, [], .box [.p (.int .i64) m.1, .p (.int .i64) m.2.1, .p (.sl (.sl (.int .i64))) m.2.2.1, .p (.int .i64) m.2.2.2.1, .p (.int .u32) m.2.2.2.2])]⟩ : St)) (by kernel_rfl) ⟨trivial, trivial, trivial, o1, trivial, trivial, o2, trivial, trivial, trivial⟩ ?_
          refine awl_nil ?_
          refine blockQ_n ?_
          refine thenQ_n ?_
          refine aw_region ?_
          obtain ⟨o1, h⟩ := h
          refine awl_runp 2 [2, 9, 26, 27, 28] [2] (ob := (InR (v28 + (1 : Int)) ∧ True ∧ True)) (st' := (⟨46, [(2, [], .v (.c (.ptr 2 0))), (9, [], .v (.c (.p (.int .i64) ((m.2.2.1.getD (atv).toNat ([] : (List Int))).getD ((w.getD (v28).toNat (0 : Int))).toNat (0 : Int))))), (26, [], .v (.c (.p (.sl (.int .i64)) w))), (27, [], .v (.c (.p (.int .i64) (w.length : Int)))), (28, [], .v (.c (.p (.int .i64) (v28 + (1 : Int)))))], [(2, [], .box [.p (.int .i64) m.1, .p (.int .i64) m.2.1, .p (.sl (.sl (.int .i64))) m.2.2.1, .p (.int .i64) m.2.2.2.1, .p (.int .u32) m.2.2.2.2])]⟩ : St)) (by kernel_rfl) ⟨o1, trivial, trivial⟩ ?_
          refine awl_nil ?_
          exact thenQ_n ⟨(((m.2.2.1.getD (atv).toNat ([] : (List Int))).getD ((w.getD (v28).toNat (0 : Int))).toNat (0 : Int)), (v28 + (1 : Int))), rfl, h⟩
        · have h := h.2 hb
          refine aw_conv [.prune [2, 9] [2]] (st' := (⟨46, [(2, [], .v (.c (.ptr 2 0))), (9, [], .v (.c (.p (.int .i64) atv)))], [(2, [], .box [.p (.int .i64) m.1, .p (.int .i64) m.2.1, .p (.sl (.sl (.int .i64))) m.2.2.1, .p (.int .i64) m.2.2.2.1, .p (.int .u32) m.2.2.2.2])]⟩ : St)) (by kernel_rfl) ?_
          refine aw_exit ?_
          refine thenQ_x ?_
          refine thenQ_x ?_
          refine blockQ_hit ?_
          exact rest1 atv h

-- coppicer/coppicerref.MachineCheck
def VC26_k2 (m : (Int × (Int × ((List (List Int)) × (Int × Int))))) (K : Int → Prop) : Prop :=
  ((((decide (m.2.2.2.1 < (0 : Int))) || (decide (m.1 ≤ m.2.2.2.1))) = true → K (2 : Int)) ∧ (((decide (m.2.2.2.1 < (0 : Int))) || (decide (m.1 ≤ m.2.2.2.1))) = false → (0 ≤ (IntKind.wrap .u64 m.1) ∧ (((decide ((bShl .u32 (1 : Int) (IntKind.wrap .u64 m.1)) ≤ m.2.2.2.2)) = true → K (4 : Int)) ∧ ((decide ((bShl .u32 (1 : Int) (IntKind.wrap .u64 m.1)) ≤ m.2.2.2.2)) = false → K (0 : Int))))))

def VC26_k3 (v49 : Int) (X1 : Int → Prop) : Prop :=
  (InR (v49 + (1 : Int)) ∧ X1 (v49 + (1 : Int)))

def VC26_l2 (m : (Int × (Int × ((List (List Int)) × (Int × Int))))) (K : Int → Prop) (v49 : Int) (X1 : Int → Prop) (v55 : Int) (X2 : Int → Prop) : Prop :=
  (((decide (v55 < ((m.2.2.1.getD (v49).toNat ([] : (List Int))).length : Int))) = true → (inIdx v55 (m.2.2.1.getD (v49).toNat ([] : (List Int))).length ∧ ((((decide (((m.2.2.1.getD (v49).toNat ([] : (List Int))).getD (v55).toNat (0 : Int)) < (0 : Int))) || (decide (m.1 ≤ ((m.2.2.1.getD (v49).toNat ([] : (List Int))).getD (v55).toNat (0 : Int))))) = true → K (2 : Int)) ∧ (((decide (((m.2.2.1.getD (v49).toNat ([] : (List Int))).getD (v55).toNat (0 : Int)) < (0 : Int))) || (decide (m.1 ≤ ((m.2.2.1.getD (v49).toNat ([] : (List Int))).getD (v55).toNat (0 : Int))))) = false → (InR (v55 + (1 : Int)) ∧ X2 (v55 + (1 : Int))))))) ∧ ((decide (v55 < ((m.2.2.1.getD (v49).toNat ([] : (List Int))).length : Int))) = false → VC26_k3 v49 X1))

def VC26_l1 (m : (Int × (Int × ((List (List Int)) × (Int × Int))))) (K : Int → Prop) (v49 : Int) (X1 : Int → Prop) : Prop :=
  (((decide (v49 < (m.2.2.1.length : Int))) = true → (inIdx v49 m.2.2.1.length ∧ Loop (σ := Int) (fun s X => VC26_l2 m K v49 X1 s X) (0 : Int))) ∧ ((decide (v49 < (m.2.2.1.length : Int))) = false → VC26_k2 m K))

def VC26_k1 (m : (Int × (Int × ((List (List Int)) × (Int × Int))))) (K : Int → Prop) : Prop :=
  Loop (σ := Int) (fun s X => VC26_l1 m K s X) (0 : Int)

def VC26_l3 (m : (Int × (Int × ((List (List Int)) × (Int × Int))))) (K : Int → Prop) (v36 : Int) (X3 : Int → Prop) : Prop :=
  (((decide (v36 < (m.2.2.1.length : Int))) = true → (inIdx v36 m.2.2.1.length ∧ (((!decide (((m.2.2.1.getD (v36).toNat ([] : (List Int))).length : Int) = m.2.1)) = true → K (3 : Int)) ∧ ((!decide (((m.2.2.1.getD (v36).toNat ([] : (List Int))).length : Int) = m.2.1)) = false → (InR (v36 + (1 : Int)) ∧ X3 (v36 + (1 : Int))))))) ∧ ((decide (v36 < (m.2.2.1.length : Int))) = false → VC26_k1 m K))

def VC26 (m : (Int × (Int × ((List (List Int)) × (Int × Int))))) (K : Int → Prop) : Prop :=
  ((((((decide (m.1 < (1 : Int))) || (decide ((7 : Int) < m.1))) || (decide (m.2.1 < (1 : Int)))) || (decide ((3 : Int) < m.2.1))) = true → K (1 : Int)) ∧ (((((decide (m.1 < (1 : Int))) || (decide ((7 : Int) < m.1))) || (decide (m.2.1 < (1 : Int)))) || (decide ((3 : Int) < m.2.1))) = false → (((!decide ((m.2.2.1.length : Int) = m.1)) = true → K (3 : Int)) ∧ ((!decide ((m.2.2.1.length : Int) = m.1)) = false → Loop (σ := Int) (fun s X => VC26_l3 m K s X) (0 : Int)))))

set_option maxHeartbeats 4000000 in
theorem link26 (m : (Int × (Int × ((List (List Int)) × (Int × Int))))) (K : Int → Prop) (h : VC26 m K) : ACalls Try.prog 26 [toV1 (.pr (.int .i64) (.pr (.int .i64) (.pr (.sl (.sl (.int .i64))) (.pr (.int .i64) (.int .u32))))) m] (fun res => ∃ y, res = (fun y => [toV1 (.int .i64) y]) y ∧ K y) := by
  refine acalls_of_aw [(.int .i64)] [.t 2] Try.func26 rfl rfl rfl ?_
  unfold VC26 at h
  refine aw_seq ?_
  refine aw_region ?_
  refine awl_runp 2 [1] [1] (ob := (True ∧ True ∧ True)) (st' := (⟨86, [(1, [], .v (.c (.ptr 1 0)))], [(1, [], .box [.p (.int .i64) m.1, .p (.int .i64) m.2.1, .p (.sl (.sl (.int .i64))) m.2.2.1, .p (.int .i64) m.2.2.2.1, .p (.int .u32) m.2.2.2.2])]⟩ : St)) (by kernel_rfl) ⟨trivial, trivial, trivial⟩ ?_
  refine awl_nil ?_
  refine thenQ_n ?_
  refine aw_seq ?_
  refine aw_seq ?_
  refine aw_region ?_
  refine awl_runp 18 [1, 26] [1] (ob := (True ∧ True ∧ True ∧ True ∧ ((decide (m.1 < (1 : Int))) = false → True) ∧ ((decide (m.1 < (1 : Int))) = false → True) ∧ ((decide (m.1 < (1 : Int))) = false → True) ∧ True ∧ True ∧ (((decide (m.1 < (1 : Int))) || (decide ((7 : Int) < m.1))) = false → True) ∧ (((decide (m.1 < (1 : Int))) || (decide ((7 : Int) < m.1))) = false → True) ∧ (((decide (m.1 < (1 : Int))) || (decide ((7 : Int) < m.1))) = false → True) ∧ True ∧ True ∧ ((((decide (m.1 < (1 : Int))) || (decide ((7 : Int) < m.1))) || (decide (m.2.1 < (1 : Int)))) = false → True) ∧ ((((decide (m.1 < (1 : Int))) || (decide ((7 : Int) < m.1))) || (decide (m.2.1 < (1 : Int)))) = false → True) ∧ ((((decide (m.1 < (1 : Int))) || (decide ((7 : Int) < m.1))) || (decide (m.2.1 < (1 : Int)))) = false → True) ∧ True ∧ True)) (st' := (⟨86, [(1, [], .v (.c (.ptr 1 0))), (26, [], .v (.c (.p .bool ((((decide (m.1 < (1 : Int))) || (decide ((7 : Int) < m.1))) || (decide (m.2.1 < (1 : Int)))) || (decide ((3 : Int) < m.2.1))))))], [(1, [], .box [.p (.int .i64) m.1, .p (.int .i64) m.2.1, .p (.sl (.sl (.int .i64))) m.2.2.1, .p (.int .i64) m.2.2.2.1, .p (.int .u32) m.2.2.2.2])]⟩ : St)) (by kernel_rfl) ⟨trivial, trivial, trivial, trivial, (fun _ => trivial), (fun _ => trivial), (fun _ => trivial), trivial, trivial, (fun _ => trivial), (fun _ => trivial), (fun _ => trivial), trivial, trivial, (fun _ => trivial), (fun _ => trivial), (fun _ => trivial), trivial, trivial⟩ ?_
  refine awl_nil ?_
  refine thenQ_n ?_
  refine aw_cond (b := ((((decide (m.1 < (1 : Int))) || (decide ((7 : Int) < m.1))) || (decide (m.2.1 < (1 : Int)))) || (decide ((3 : Int) < m.2.1)))) (by kernel_rfl) (fun hb => ?_) (fun hb => ?_)
  · have h := h.1 hb
    refine aw_seq ?_
    refine aw_region ?_
    refine awl_runp 1 [2] [] (ob := (True ∧ True)) (st' := (⟨86, [(2, [], .v (.c (.p (.int .i64) (1 : Int))))], []⟩ : St)) (by kernel_rfl) ⟨trivial, trivial⟩ ?_
    refine awl_nil ?_
    refine thenQ_n ?_
    refine aw_ret ?_
    refine thenQ_r ?_
    exact retQ_r (σ := Int) (R := (fun y => [toV1 (.int .i64) y])) (ob := (True ∧ True)) (1 : Int) (by kernel_rfl) ⟨trivial, trivial⟩ h
  · have h := h.2 hb
    refine aw_skip ?_
    refine thenQ_n ?_
    refine aw_seq ?_
    refine aw_seq ?_
    refine aw_region ?_
    refine awl_runp 6 [1, 32] [1] (ob := (True ∧ True ∧ True ∧ True ∧ True ∧ True ∧ True)) (st' := (⟨86, [(1, [], .v (.c (.ptr 1 0))), (32, [], .v (.c (.p .bool (!decide ((m.2.2.1.length : Int) = m.1)))))], [(1, [], .box [.p (.int .i64) m.1, .p (.int .i64) m.2.1, .p (.sl (.sl (.int .i64))) m.2.2.1, .p (.int .i64) m.2.2.2.1, .p (.int .u32) m.2.2.2.2])]⟩ : St)) (by kernel_rfl) ⟨trivial, trivial, trivial, trivial, trivial, trivial, trivial⟩ ?_
    refine awl_nil ?_
    refine thenQ_n ?_
    refine aw_cond (b := (!decide ((m.2.2.1.length : Int) = m.1))) (by kernel_rfl) (fun hb => ?_) (fun hb => ?_)
    · have h := h.1 hb
      refine aw_seq ?_
      refine aw_region ?_
      refine awl_runp 1 [2] [] (ob := (True ∧ True)) (st' := (⟨86, [(2, [], .v (.c (.p (.int .i64) (3 : Int))))], []⟩ : St)) (by kernel_rfl) ⟨trivial, trivial⟩ ?_
      refine awl_nil ?_
      refine thenQ_n ?_
      refine aw_ret ?_
      refine thenQ_r ?_
      exact retQ_r (σ := Int) (R := (fun y => [toV1 (.int .i64) y])) (ob := (True ∧ True)) (3 : Int) (by kernel_rfl) ⟨trivial, trivial⟩ h
    · have h := h.2 hb
      refine aw_skip ?_
      refine thenQ_n ?_
      refine aw_seq ?_
      refine aw_seq ?_
      refine aw_region ?_
      refine awl_runp 4 [1, 34, 35, 36] [1] (ob := (True ∧ True ∧ True ∧ True ∧ True)) (st' := (⟨86, [(1, [], .v (.c (.ptr 1 0))), (34, [], .v (.c (.p (.sl (.sl (.int .i64))) m.2.2.1))), (35, [], .v (.c (.p (.int .i64) (m.2.2.1.length : Int)))), (36, [], .v (.c (.p (.int .i64) (0 : Int))))], [(1, [], .box [.p (.int .i64) m.1, .p (.int .i64) m.2.1, .p (.sl (.sl (.int .i64))) m.2.2.1, .p (.int .i64) m.2.2.2.1, .p (.int .u32) m.2.2.2.2])]⟩ : St)) (by kernel_rfl) ⟨trivial, trivial, trivial, trivial, trivial⟩ ?_
      refine awl_nil ?_
      refine thenQ_n ?_
      refine withJoin (σ := Unit) (fun s => (⟨86, [(1, [], .v (.c (.ptr 1 0)))], [(1, [], .box [.p (.int .i64) m.1, .p (.int .i64) m.2.1, .p (.sl (.sl (.int .i64))) m.2.2.1, .p (.int .i64) m.2.2.2.1, .p (.int .u32) m.2.2.2.2])]⟩ : St)) (fun s => VC26_k1 m K) (fun s h => ?_) (fun rest3 => ?_)
      · have h : VC26_k1 m K := h
        unfold VC26_k1 at h
        refine thenQ_n ?_
        refine aw_seq ?_
        refine aw_seq ?_
        refine aw_region ?_
        refine awl_runp 4 [1, 47, 48, 49] [1] (ob := (True ∧ True ∧ True ∧ True ∧ True)) (st' := (⟨86, [(1, [], .v (.c (.ptr 1 0))), (47, [], .v (.c (.p (.sl (.sl (.int .i64))) m.2.2.1))), (48, [], .v (.c (.p (.int .i64) (m.2.2.1.length : Int)))), (49, [], .v (.c (.p (.int .i64) (0 : Int))))], [(1, [], .box [.p (.int .i64) m.1, .p (.int .i64) m.2.1, .p (.sl (.sl (.int .i64))) m.2.2.1, .p (.int .i64) m.2.2.2.1, .p (.int .u32) m.2.2.2.2])]⟩ : St)) (by kernel_rfl) ⟨trivial, trivial, trivial, trivial, trivial⟩ ?_
        refine awl_nil ?_
        refine thenQ_n ?_
        refine withJoin (σ := Unit) (fun s => (⟨86, [(1, [], .v (.c (.ptr 1 0)))], [(1, [], .box [.p (.int .i64) m.1, .p (.int .i64) m.2.1, .p (.sl (.sl (.int .i64))) m.2.2.1, .p (.int .i64) m.2.2.2.1, .p (.int .u32) m.2.2.2.2])]⟩ : St)) (fun s => VC26_k2 m K) (fun s h => ?_) (fun rest1 => ?_)
        · have h : VC26_k2 m K := h
          unfold VC26_k2 at h
          refine thenQ_n ?_
          refine aw_seq ?_
          refine aw_seq ?_
          refine aw_region ?_
          refine awl_runp 10 [1, 78] [1] (ob := (True ∧ True ∧ True ∧ True ∧ ((decide (m.2.2.2.1 < (0 : Int))) = false → True) ∧ ((decide (m.2.2.2.1 < (0 : Int))) = false → True) ∧ ((decide (m.2.2.2.1 < (0 : Int))) = false → True) ∧ ((decide (m.2.2.2.1 < (0 : Int))) = false → True) ∧ ((decide (m.2.2.2.1 < (0 : Int))) = false → True) ∧ True ∧ True)) (st' := (⟨86, [(1, [], .v (.c (.ptr 1 0))), (78, [], .v (.c (.p .bool ((decide (m.2.2.2.1 < (0 : Int))) || (decide (m.1 ≤ m.2.2.2.1))))))], [(1, [], .box [.p (.int .i64) m.1, .p (.int .i64) m.2.1, .p (.sl (.sl (.int .i64))) m.2.2.1, .p (.int .i64) m.2.2.2.1, .p (.int .u32) m.2.2.2.2])]⟩ : St)) (by kernel_rfl) ⟨trivial, trivial, trivial, trivial, (fun _ => trivial), (fun _ => trivial), (fun _ => trivial), (fun _ => trivial), (fun _ => trivial), trivial, trivial⟩ ?_
          refine awl_nil ?_
          refine thenQ_n ?_
          refine aw_cond (b := ((decide (m.2.2.2.1 < (0 : Int))) || (decide (m.1 ≤ m.2.2.2.1)))) (by kernel_rfl) (fun hb => ?_) (fun hb => ?_)
          · have h := h.1 hb
            refine aw_seq ?_
            refine aw_region ?_
            refine awl_runp 1 [2] [] (ob := (True ∧ True)) (st' := (⟨86, [(2, [], .v (.c (.p (.int .i64) (2 : Int))))], []⟩ : St)) (by kernel_rfl) ⟨trivial, trivial⟩ ?_
            refine awl_nil ?_
            refine thenQ_n ?_
            refine aw_ret ?_
            refine thenQ_r ?_
            exact retQ_r (σ := Int) (R := (fun y => [toV1 (.int .i64) y])) (ob := (True ∧ True)) (2 : Int) (by kernel_rfl) ⟨trivial, trivial⟩ h
          · have h := h.2 hb
            refine aw_skip ?_
            refine thenQ_n ?_
            refine aw_seq ?_
            refine aw_seq ?_
            refine aw_region ?_
            obtain ⟨o1, h⟩ := h
            refine awl_runp 7 [85] [] (ob := (True ∧ True ∧ True ∧ True ∧ True ∧ 0 ≤ (IntKind.wrap .u64 m.1) ∧ True ∧ True)) (st' := (⟨86, [(85, [], .v (.c (.p .bool (decide ((bShl .u32 (1 : Int) (IntKind.wrap .u64 m.1)) ≤ m.2.2.2.2)))))], []⟩ : St)) (by kernel_rfl) ⟨trivial, trivial, trivial, trivial, trivial, o1, trivial, trivial⟩ ?_
            refine awl_nil ?_
            refine thenQ_n ?_
            refine aw_cond (b := (decide ((bShl .u32 (1 : Int) (IntKind.wrap .u64 m.1)) ≤ m.2.2.2.2))) (by kernel_rfl) (fun hb => ?_) (fun hb => ?_)
            · have h := h.1 hb
              refine aw_seq ?_
              refine aw_region ?_
              refine awl_runp 1 [2] [] (ob := (True ∧ True)) (st' := (⟨86, [(2, [], .v (.c (.p (.int .i64) (4 : Int))))], []⟩ : St)) (by kernel_rfl) ⟨trivial, trivial⟩ ?_
              refine awl_nil ?_
              refine thenQ_n ?_
              refine aw_ret ?_
              refine thenQ_r ?_
              exact retQ_r (σ := Int) (R := (fun y => [toV1 (.int .i64) y])) (ob := (True ∧ True)) (4 : Int) (by kernel_rfl) ⟨trivial, trivial⟩ h
            · have h := h.2 hb
              refine aw_skip ?_
              refine thenQ_n ?_
              refine aw_seq ?_
              refine aw_region ?_
              refine awl_runp 1 [2] [] (ob := (True ∧ True)) (st' := (⟨86, [(2, [], .v (.c (.p (.int .i64) (0 : Int))))], []⟩ : St)) (by kernel_rfl) ⟨trivial, trivial⟩ ?_
              refine awl_nil ?_
              refine thenQ_n ?_
              refine aw_ret ?_
              exact retQ_r (σ := Int) (R := (fun y => [toV1 (.int .i64) y])) (ob := (True ∧ True)) (0 : Int) (by kernel_rfl) ⟨trivial, trivial⟩ h
        · refine aw_block ?_
          refine aw_loop (σ := Int) (fun s => (⟨86, [(1, [], .v (.c (.ptr 1 0))), (47, [], .v (.c (.p (.sl (.sl (.int .i64))) m.2.2.1))), (48, [], .v (.c (.p (.int .i64) (m.2.2.1.length : Int)))), (49, [], .v (.c (.p (.int .i64) s)))], [(1, [], .box [.p (.int .i64) m.1, .p (.int .i64) m.2.1, .p (.sl (.sl (.int .i64))) m.2.2.1, .p (.int .i64) m.2.2.2.1, .p (.int .u32) m.2.2.2.2])]⟩ : St)) (fun s X => VC26_l1 m K s X) (s0 := (0 : Int)) (fun v49 X1 h => ?_) h
          have h : VC26_l1 m K v49 X1 := h
          unfold VC26_l1 at h
          refine aw_seq ?_
          refine aw_region ?_
          refine awl_runp 1 [1, 47, 48, 49, 50] [1] (ob := (True ∧ True)) (st' := (⟨86, [(1, [], .v (.c (.ptr 1 0))), (47, [], .v (.c (.p (.sl (.sl (.int .i64))) m.2.2.1))), (48, [], .v (.c (.p (.int .i64) (m.2.2.1.length : Int)))), (49, [], .v (.c (.p (.int .i64) v49))), (50, [], .v (.c (.p .bool (decide (v49 < (m.2.2.1.length : Int))))))], [(1, [], .box [.p (.int .i64) m.1, .p (.int .i64) m.2.1, .p (.sl (.sl (.int .i64))) m.2.2.1, .p (.int .i64) m.2.2.2.1, .p (.int .u32) m.2.2.2.2])]⟩ : St)) (by kernel_rfl) ⟨trivial, trivial⟩ ?_
          refine awl_nil ?_
          refine thenQ_n ?_
          refine aw_seq ?_
          refine aw_cond (b := (decide (v49 < (m.2.2.1.length : Int)))) (by kernel_rfl) (fun hb => ?_) (fun hb => ?_)
          · have h := h.1 hb
            refine aw_skip ?_
            refine thenQ_n ?_
            refine aw_seq ?_
            refine aw_block ?_
            refine aw_seq ?_
            refine aw_region ?_
            obtain ⟨o1, h⟩ := h
            refine awl_runp 3 [1, 6, 47, 48, 49] [1] (ob := (inIdx v49 m.2.2.1.length ∧ True ∧ True ∧ True)) (st' := (⟨86, [(1, [], .v (.c (.ptr 1 0))), (6, [], .v (.c (.p (.sl (.int .i64)) (m.2.2.1.getD (v49).toNat ([] : (List Int)))))), (47, [], .v (.c (.p (.sl (.sl (.int .i64))) m.2.2.1))), (48, [], .v (.c (.p (.int .i64) (m.2.2.1.length : Int)))), (49, [], .v (.c (.p (.int .i64) v49)))], [(1, [], .box [.p (.int .i64) m.1, .p (.int .i64) m.2.1, .p (.sl (.sl (.int .i64))) m.2.2.1, .p (.int .i64) m.2.2.2.1, .p (.int .u32) m.2.2.2.2])]⟩ : St)) (by kernel_rfl) ⟨o1, trivial, trivial, trivial⟩ ?_
            refine awl_nil ?_
            refine thenQ_n ?_
            refine aw_seq ?_
            refine aw_region ?_
            refine awl_runp 3 [1, 47, 48, 49, 53, 54, 55] [1] (ob := (True ∧ True ∧ True ∧ True)) (st' := (⟨86, [(1, [], .v (.c (.ptr 1 0))), (47, [], .v (.c (.p (.sl (.sl (.int .i64))) m.2.2.1))), (48, [], .v (.c (.p (.int .i64) (m.2.2.1.length : Int)))), (49, [], .v (.c (.p (.int .i64) v49))), (53, [], .v (.c (.p (.sl (.int .i64)) (m.2.2.1.getD (v49).toNat ([] : (List Int)))))), (54, [], .v (.c (.p (.int .i64) ((m.2.2.1.getD (v49).toNat ([] : (List Int))).length : Int)))), (55, [], .v (.c (.p (.int .i64) (0 : Int))))], [(1, [], .box [.p (.int .i64) m.1, .p (.int .i64) m.2.1, .p (.sl (.sl (.int .i64))) m.2.2.1, .p (.int .i64) m.2.2.2.1, .p (.int .u32) m.2.2.2.2])]⟩ : St)) (by kernel_rfl) ⟨trivial, trivial, trivial, trivial⟩ ?_
            refine awl_nil ?_
            refine thenQ_n ?_
            refine withJoin (σ := Unit) (fun s => (⟨86, [(1, [], .v (.c (.ptr 1 0))), (47, [], .v (.c (.p (.sl (.sl (.int .i64))) m.2.2.1))), (48, [], .v (.c (.p (.int .i64) (m.2.2.1.length : Int)))), (49, [], .v (.c (.p (.int .i64) v49)))], [(1, [], .box [.p (.int .i64) m.1, .p (.int .i64) m.2.1, .p (.sl (.sl (.int .i64))) m.2.2.1, .p (.int .i64) m.2.2.2.1, .p (.int .u32) m.2.2.2.2])]⟩ : St)) (fun s => VC26_k3 v49 X1) (fun s h => ?_) (fun rest2 => ?_)
            · have h : VC26_k3 v49 X1 := h
              unfold VC26_k3 at h
              refine blockQ_n ?_
              refine thenQ_n ?_
              refine aw_region ?_
              obtain ⟨o1, h⟩ := h
              refine awl_runp 2 [1, 47, 48, 49] [1] (ob := (InR (v49 + (1 : Int)) ∧ True ∧ True)) (st' := (⟨86, [(1, [], .v (.c (.ptr 1 0))), (47, [], .v (.c (.p (.sl (.sl (.int .i64))) m.2.2.1))), (48, [], .v (.c (.p (.int .i64) (m.2.2.1.length : Int)))), (49, [], .v (.c (.p (.int .i64) (v49 + (1 : Int)))))], [(1, [], .box [.p (.int .i64) m.1, .p (.int .i64) m.2.1, .p (.sl (.sl (.int .i64))) m.2.2.1, .p (.int .i64) m.2.2.2.1, .p (.int .u32) m.2.2.2.2])]⟩ : St)) (by kernel_rfl) ⟨o1, trivial, trivial⟩ ?_
              refine awl_nil ?_
              exact thenQ_n ⟨(v49 + (1 : Int)), rfl, h⟩
            · refine aw_block ?_
              refine aw_loop (σ := Int) (fun s => (⟨86, [(1, [], .v (.c (.ptr 1 0))), (47, [], .v (.c (.p (.sl (.sl (.int .i64))) m.2.2.1))), (48, [], .v (.c (.p (.int .i64) (m.2.2.1.length : Int)))), (49, [], .v (.c (.p (.int .i64) v49))), (53, [], .v (.c (.p (.sl (.int .i64)) (m.2.2.1.getD (v49).toNat ([] : (List Int)))))), (54, [], .v (.c (.p (.int .i64) ((m.2.2.1.getD (v49).toNat ([] : (List Int))).length : Int)))), (55, [], .v (.c (.p (.int .i64) s)))], [(1, [], .box [.p (.int .i64) m.1, .p (.int .i64) m.2.1, .p (.sl (.sl (.int .i64))) m.2.2.1, .p (.int .i64) m.2.2.2.1, .p (.int .u32) m.2.2.2.2])]⟩ : St)) (fun s X => VC26_l2 m K v49 X1 s X) (s0 := (0 : Int)) (fun v55 X2 h => ?_) h
              have h : VC26_l2 m K v49 X1 v55 X2 := h
              unfold VC26_l2 at h
              refine aw_seq ?_
              refine aw_region ?_
              refine awl_runp 1 [1, 47, 48, 49, 53, 54, 55, 56] [1] (ob := (True ∧ True)) (st' := (⟨86, [(1, [], .v (.c (.ptr 1 0))), (47, [], .v (.c (.p (.sl (.sl (.int .i64))) m.2.2.1))), (48, [], .v (.c (.p (.int .i64) (m.2.2.1.length : Int)))), (49, [], .v (.c (.p (.int .i64) v49))), (53, [], .v (.c (.p (.sl (.int .i64)) (m.2.2.1.getD (v49).toNat ([] : (List Int)))))), (54, [], .v (.c (.p (.int .i64) ((m.2.2.1.getD (v49).toNat ([] : (List Int))).length : Int)))), (55, [], .v (.c (.p (.int .i64) v55))), (56, [], .v (.c (.p .bool (decide (v55 < ((m.2.2.1.getD (v49).toNat ([] : (List Int))).length : Int))))))], [(1, [], .box [.p (.int .i64) m.1, .p (.int .i64) m.2.1, .p (.sl (.sl (.int .i64))) m.2.2.1, .p (.int .i64) m.2.2.2.1, .p (.int .u32) m.2.2.2.2])]⟩ : St)) (by kernel_rfl) ⟨trivial, trivial⟩ ?_
              refine awl_nil ?_
              refine thenQ_n ?_
              refine aw_seq ?_
              refine aw_cond (b := (decide (v55 < ((m.2.2.1.getD (v49).toNat ([] : (List Int))).length : Int)))) (by kernel_rfl) (fun hb => ?_) (fun hb => ?_)
              · have h := h.1 hb
                refine aw_skip ?_
                refine thenQ_n ?_
                refine aw_seq ?_
                refine aw_block ?_
                refine aw_seq ?_
                refine aw_region ?_
                obtain ⟨o1, h⟩ := h
                refine awl_runp 3 [1, 8, 47, 48, 49, 53, 54, 55] [1] (ob := (inIdx v55 (m.2.2.1.getD (v49).toNat ([] : (List Int))).length ∧ True ∧ True ∧ True)) (st' := (⟨86, [(1, [], .v (.c (.ptr 1 0))), (8, [], .v (.c (.p (.int .i64) ((m.2.2.1.getD (v49).toNat ([] : (List Int))).getD (v55).toNat (0 : Int))))), (47, [], .v (.c (.p (.sl (.sl (.int .i64))) m.2.2.1))), (48, [], .v (.c (.p (.int .i64) (m.2.2.1.length : Int)))), (49, [], .v (.c (.p (.int .i64) v49))), (53, [], .v (.c (.p (.sl (.int .i64)) (m.2.2.1.getD (v49).toNat ([] : (List Int)))))), (54, [], .v (.c (.p (.int .i64) ((m.2.2.1.getD (v49).toNat ([] : (List Int))).length : Int)))), (55, [], .v (.c (.p (.int .i64) v55)))], [(1, [], .box [.p (.int .i64) m.1, .p (.int .i64) m.2.1, .p (.sl (.sl (.int .i64))) m.2.2.1, .p (.int .i64) m.2.2.2.1, .p (.int .u32) m.2.2.2.2])]⟩ : St)) (by kernel_rfl) ⟨o1, trivial, trivial, trivial⟩ ?_
                refine awl_nil ?_
                refine thenQ_n ?_
                refine aw_seq ?_
                refine aw_region ?_
                refine awl_runp 8 [1, 47, 48, 49, 53, 54, 55, 66] [1] (ob := (True ∧ True ∧ True ∧ ((decide (((m.2.2.1.getD (v49).toNat ([] : (List Int))).getD (v55).toNat (0 : Int)) < (0 : Int))) = false → True) ∧ ((decide (((m.2.2.1.getD (v49).toNat ([] : (List Int))).getD (v55).toNat (0 : Int)) < (0 : Int))) = false → True) ∧ ((decide (((m.2.2.1.getD (v49).toNat ([] : (List Int))).getD (v55).toNat (0 : Int)) < (0 : Int))) = false → True) ∧ ((decide (((m.2.2.1.getD (v49).toNat ([] : (List Int))).getD (v55).toNat (0 : Int)) < (0 : Int))) = false → True) ∧ True ∧ True)) (st' := (⟨86, [(1, [], .v (.c (.ptr 1 0))), (47, [], .v (.c (.p (.sl (.sl (.int .i64))) m.2.2.1))), (48, [], .v (.c (.p (.int .i64) (m.2.2.1.length : Int)))), (49, [], .v (.c (.p (.int .i64) v49))), (53, [], .v (.c (.p (.sl (.int .i64)) (m.2.2.1.getD (v49).toNat ([] : (List Int)))))), (54, [], .v (.c (.p (.int .i64) ((m.2.2.1.getD (v49).toNat ([] : (List Int))).length : Int)))), (55, [], .v (.c (.p (.int .i64) v55))), (66, [], .v (.c (.p .bool ((decide (((m.2.2.1.getD (v49).toNat ([] : (List Int))).getD (v55).toNat (0 : Int)) < (0 : Int))) || (decide (m.1 ≤ ((m.2.2.1.getD (v49).toNat ([] : (List Int))).getD (v55).toNat (0 : Int))))))))], [(1, [], .box [.p (.int .i64) m.1, .p (.int .i64) m.2.1, .p (.sl (.sl (.int .i64))) m.2.2.1, .p (.int .i64) m.2.2.2.1, .p (.int .u32) m.2.2.2.2])]⟩ : St)) (by kernel_rfl) ⟨trivial, trivial, trivial, (fun _ => trivial), (fun _ => trivial), (fun _ => trivial), (fun _ => trivial), trivial, trivial⟩ ?_
                refine awl_nil ?_
                refine thenQ_n ?_
                refine aw_cond (b := ((decide (((m.2.2.1.getD (v49).toNat ([] : (List Int))).getD (v55).toNat (0 : Int)) < (0 : Int))) || (decide (m.1 ≤ ((m.2.2.1.getD (v49).toNat ([] : (List Int))).getD (v55).toNat (0 : Int)))))) (by kernel_rfl) (fun hb => ?_) (fun hb => ?_)
                · have h := h.1 hb
                  refine aw_seq ?_
                  refine aw_region ?_
                  refine awl_runp 1 [2] [] (ob := (True ∧ True)) (st' := (⟨86, [(2, [], .v (.c (.p (.int .i64) (2 : Int))))], []⟩ : St)) (by kernel_rfl) ⟨trivial, trivial⟩ ?_
                  refine awl_nil ?_
                  refine thenQ_n ?_
                  refine aw_ret ?_
                  refine blockQ_r ?_
                  refine thenQ_r ?_
                  refine thenQ_r ?_
                  refine blockQ_r ?_
                  refine blockQ_r ?_
                  refine thenQ_r ?_
                  refine thenQ_r ?_
                  refine blockQ_r ?_
                  refine thenQ_r ?_
                  exact retQ_r (σ := Int) (R := (fun y => [toV1 (.int .i64) y])) (ob := (True ∧ True)) (2 : Int) (by kernel_rfl) ⟨trivial, trivial⟩ h
                · have h := h.2 hb
                  refine aw_skip ?_
                  refine blockQ_n ?_
                  refine thenQ_n ?_
                  refine aw_region ?_
                  obtain ⟨o1, h⟩ := h
                  refine awl_runp 2 [1, 47, 48, 49, 53, 54, 55] [1] (ob := (InR (v55 + (1 : Int)) ∧ True ∧ True)) (st' := (⟨86, [(1, [], .v (.c (.ptr 1 0))), (47, [], .v (.c (.p (.sl (.sl (.int .i64))) m.2.2.1))), (48, [], .v (.c (.p (.int .i64) (m.2.2.1.length : Int)))), (49, [], .v (.c (.p (.int .i64) v49))), (53, [], .v (.c (.p (.sl (.int .i64)) (m.2.2.1.getD (v49).toNat ([] : (List Int)))))), (54, [], .v (.c (.p (.int .i64) ((m.2.2.1.getD (v49).toNat ([] : (List Int))).length : Int)))), (55, [], .v (.c (.p (.int .i64) (v55 + (1 : Int)))))], [(1, [], .box [.p (.int .i64) m.1, .p (.int .i64) m.2.1, .p (.sl (.sl (.int .i64))) m.2.2.1, .p (.int .i64) m.2.2.2.1, .p (.int .u32) m.2.2.2.2])]⟩ : St)) (by kernel_rfl) ⟨o1, trivial, trivial⟩ ?_
                  refine awl_nil ?_
                  exact thenQ_n ⟨(v55 + (1 : Int)), rfl, h⟩
              · have h := h.2 hb
                refine aw_conv [.prune [1, 47, 48, 49] [1]] (st' := (⟨86, [(1, [], .v (.c (.ptr 1 0))), (47, [], .v (.c (.p (.sl (.sl (.int .i64))) m.2.2.1))), (48, [], .v (.c (.p (.int .i64) (m.2.2.1.length : Int)))), (49, [], .v (.c (.p (.int .i64) v49)))], [(1, [], .box [.p (.int .i64) m.1, .p (.int .i64) m.2.1, .p (.sl (.sl (.int .i64))) m.2.2.1, .p (.int .i64) m.2.2.2.1, .p (.int .u32) m.2.2.2.2])]⟩ : St)) (by kernel_rfl) ?_
                refine aw_exit ?_
                refine thenQ_x ?_
                refine thenQ_x ?_
                refine blockQ_hit ?_
                exact rest2 () h
          · have h := h.2 hb
            refine aw_conv [.prune [1] [1]] (st' := (⟨86, [(1, [], .v (.c (.ptr 1 0)))], [(1, [], .box [.p (.int .i64) m.1, .p (.int .i64) m.2.1, .p (.sl (.sl (.int .i64))) m.2.2.1, .p (.int .i64) m.2.2.2.1, .p (.int .u32) m.2.2.2.2])]⟩ : St)) (by kernel_rfl) ?_
            refine aw_exit ?_
            refine thenQ_x ?_
            refine thenQ_x ?_
            refine blockQ_hit ?_
            exact rest1 () h
      · refine aw_block ?_
        refine aw_loop (σ := Int) (fun s => (⟨86, [(1, [], .v (.c (.ptr 1 0))), (34, [], .v (.c (.p (.sl (.sl (.int .i64))) m.2.2.1))), (35, [], .v (.c (.p (.int .i64) (m.2.2.1.length : Int)))), (36, [], .v (.c (.p (.int .i64) s)))], [(1, [], .box [.p (.int .i64) m.1, .p (.int .i64) m.2.1, .p (.sl (.sl (.int .i64))) m.2.2.1, .p (.int .i64) m.2.2.2.1, .p (.int .u32) m.2.2.2.2])]⟩ : St)) (fun s X => VC26_l3 m K s X) (s0 := (0 : Int)) (fun v36 X3 h => ?_) h
        have h : VC26_l3 m K v36 X3 := h
        unfold VC26_l3 at h
        refine aw_seq ?_
        refine aw_region ?_
        refine awl_runp 1 [1, 34, 35, 36, 37] [1] (ob := (True ∧ True)) (st' := (⟨86, [(1, [], .v (.c (.ptr 1 0))), (34, [], .v (.c (.p (.sl (.sl (.int .i64))) m.2.2.1))), (35, [], .v (.c (.p (.int .i64) (m.2.2.1.length : Int)))), (36, [], .v (.c (.p (.int .i64) v36))), (37, [], .v (.c (.p .bool (decide (v36 < (m.2.2.1.length : Int))))))], [(1, [], .box [.p (.int .i64) m.1, .p (.int .i64) m.2.1, .p (.sl (.sl (.int .i64))) m.2.2.1, .p (.int .i64) m.2.2.2.1, .p (.int .u32) m.2.2.2.2])]⟩ : St)) (by kernel_rfl) ⟨trivial, trivial⟩ ?_
        refine awl_nil ?_
        refine thenQ_n ?_
        refine aw_seq ?_
        refine aw_cond (b := (decide (v36 < (m.2.2.1.length : Int)))) (by kernel_rfl) (fun hb => ?_) (fun hb => ?_)
        · have h := h.1 hb
          refine aw_skip ?_
          refine thenQ_n ?_
          refine aw_seq ?_
          refine aw_block ?_
          refine aw_seq ?_
          refine aw_region ?_
          obtain ⟨o1, h⟩ := h
          refine awl_runp 3 [1, 4, 34, 35, 36] [1] (ob := (inIdx v36 m.2.2.1.length ∧ True ∧ True ∧ True)) (st' := (⟨86, [(1, [], .v (.c (.ptr 1 0))), (4, [], .v (.c (.p (.sl (.int .i64)) (m.2.2.1.getD (v36).toNat ([] : (List Int)))))), (34, [], .v (.c (.p (.sl (.sl (.int .i64))) m.2.2.1))), (35, [], .v (.c (.p (.int .i64) (m.2.2.1.length : Int)))), (36, [], .v (.c (.p (.int .i64) v36)))], [(1, [], .box [.p (.int .i64) m.1, .p (.int .i64) m.2.1, .p (.sl (.sl (.int .i64))) m.2.2.1, .p (.int .i64) m.2.2.2.1, .p (.int .u32) m.2.2.2.2])]⟩ : St)) (by kernel_rfl) ⟨o1, trivial, trivial, trivial⟩ ?_
          refine awl_nil ?_
          refine thenQ_n ?_
          refine aw_seq ?_
          refine aw_region ?_
          refine awl_runp 5 [1, 34, 35, 36, 44] [1] (ob := (True ∧ True ∧ True ∧ True ∧ True ∧ True)) (st' := (⟨86, [(1, [], .v (.c (.ptr 1 0))), (34, [], .v (.c (.p (.sl (.sl (.int .i64))) m.2.2.1))), (35, [], .v (.c (.p (.int .i64) (m.2.2.1.length : Int)))), (36, [], .v (.c (.p (.int .i64) v36))), (44, [], .v (.c (.p .bool (!decide (((m.2.2.1.getD (v36).toNat ([] : (List Int))).length : Int) = m.2.1)))))], [(1, [], .box [.p (.int .i64) m.1, .p (.int .i64) m.2.1, .p (.sl (.sl (.int .i64))) m.2.2.1, .p (.int .i64) m.2.2.2.1, .p (.int .u32) m.2.2.2.2])]⟩ : St)) (by kernel_rfl) ⟨trivial, trivial, trivial, trivial, trivial, trivial⟩ ?_
          refine awl_nil ?_
          refine thenQ_n ?_
          refine aw_cond (b := (!decide (((m.2.2.1.getD (v36).toNat ([] : (List Int))).length : Int) = m.2.1))) (by kernel_rfl) (fun hb => ?_) (fun hb => ?_)
          · have h := h.1 hb
            refine aw_seq ?_
            refine aw_region ?_
            refine awl_runp 1 [2] [] (ob := (True ∧ True)) (st' := (⟨86, [(2, [], .v (.c (.p (.int .i64) (3 : Int))))], []⟩ : St)) (by kernel_rfl) ⟨trivial, trivial⟩ ?_
            refine awl_nil ?_
            refine thenQ_n ?_
            refine aw_ret ?_
            refine blockQ_r ?_
            refine thenQ_r ?_
            refine thenQ_r ?_
            refine blockQ_r ?_
            refine thenQ_r ?_
            exact retQ_r (σ := Int) (R := (fun y => [toV1 (.int .i64) y])) (ob := (True ∧ True)) (3 : Int) (by kernel_rfl) ⟨trivial, trivial⟩ h
          · have h := h.2 hb
            refine aw_skip ?_
            refine blockQ_n ?_
            refine thenQ_n ?_
            refine aw_region ?_
            obtain ⟨o1, h⟩ := h
            refine awl_runp 2 [1, 34, 35, 36] [1] (ob := (InR (v36 + (1 : Int)) ∧ True ∧ True)) (st' := (⟨86, [(1, [], .v (.c (.ptr 1 0))), (34, [], .v (.c (.p (.sl (.sl (.int .i64))) m.2.2.1))), (35, [], .v (.c (.p (.int .i64) (m.2.2.1.length : Int)))), (36, [], .v (.c (.p (.int .i64) (v36 + (1 : Int)))))], [(1, [], .box [.p (.int .i64) m.1, .p (.int .i64) m.2.1, .p (.sl (.sl (.int .i64))) m.2.2.1, .p (.int .i64) m.2.2.2.1, .p (.int .u32) m.2.2.2.2])]⟩ : St)) (by kernel_rfl) ⟨o1, trivial, trivial⟩ ?_
            refine awl_nil ?_
            exact thenQ_n ⟨(v36 + (1 : Int)), rfl, h⟩
        · have h := h.2 hb
          refine aw_conv [.prune [1] [1]] (st' := (⟨86, [(1, [], .v (.c (.ptr 1 0)))], [(1, [], .box [.p (.int .i64) m.1, .p (.int .i64) m.2.1, .p (.sl (.sl (.int .i64))) m.2.2.1, .p (.int .i64) m.2.2.2.1, .p (.int .u32) m.2.2.2.2])]⟩ : St)) (by kernel_rfl) ?_
          refine aw_exit ?_
          refine thenQ_x ?_
          refine thenQ_x ?_
          refine blockQ_hit ?_
          exact rest3 () h

-- coppicer/coppicerref.WordCheck
def VC17_k1 (K : Int → Prop) : Prop :=
  K (0 : Int)

def VC17_l1 (k : Int) (w : (List Int)) (K : Int → Prop) (v12 : Int) (X1 : Int → Prop) : Prop :=
  (((decide (v12 < (w.length : Int))) = true → (inIdx v12 w.length ∧ ((((decide ((w.getD (v12).toNat (0 : Int)) < (0 : Int))) || (decide (k ≤ (w.getD (v12).toNat (0 : Int))))) = true → K (2 : Int)) ∧ (((decide ((w.getD (v12).toNat (0 : Int)) < (0 : Int))) || (decide (k ≤ (w.getD (v12).toNat (0 : Int))))) = false → (InR (v12 + (1 : Int)) ∧ X1 (v12 + (1 : Int))))))) ∧ ((decide (v12 < (w.length : Int))) = false → VC17_k1 K))

def VC17 (k : Int) (w : (List Int)) (K : Int → Prop) : Prop :=
  (((decide ((12 : Int) < (w.length : Int))) = true → K (1 : Int)) ∧ ((decide ((12 : Int) < (w.length : Int))) = false → Loop (σ := Int) (fun s X => VC17_l1 k w K s X) (0 : Int)))

set_option maxHeartbeats 4000000 in
theorem link17 (k : Int) (w : (List Int)) (K : Int → Prop) (h : VC17 k w K) : ACalls Try.prog 17 [toV1 (.int .i64) k, toV1 (.sl (.int .i64)) w] (fun res => ∃ y, res = (fun y => [toV1 (.int .i64) y]) y ∧ K y) := by
  refine acalls_of_aw [(.int .i64)] [.t 4] Try.func17 rfl rfl rfl ?_
  unfold VC17 at h
  refine aw_seq ?_
  refine aw_region ?_
  refine awl_runp 1 [0, 1] [] (ob := (True ∧ True)) (st' := (⟨24, [(0, [], .v (.c (.p (.int .i64) k))), (1, [], .v (.c (.p (.sl (.int .i64)) w)))], []⟩ : St)) (by kernel_rfl) ⟨trivial, trivial⟩ ?_
  refine awl_nil ?_
  refine thenQ_n ?_
  refine aw_seq ?_
  refine aw_seq ?_
  refine aw_region ?_
  refine awl_runp 3 [0, 1, 9] [] (ob := (True ∧ True ∧ True ∧ True)) (st' := (⟨24, [(0, [], .v (.c (.p (.int .i64) k))), (1, [], .v (.c (.p (.sl (.int .i64)) w))), (9, [], .v (.c (.p .bool (decide ((12 : Int) < (w.length : Int))))))], []⟩ : St)) (by kernel_rfl) ⟨trivial, trivial, trivial, trivial⟩ ?_
  refine awl_nil ?_
  refine thenQ_n ?_
  refine aw_cond (b := (decide ((12 : Int) < (w.length : Int)))) (by kernel_rfl) (fun hb => ?_) (fun hb => ?_)
  · have h := h.1 hb
    refine aw_seq ?_
    refine aw_region ?_
    refine awl_runp 1 [4] [] (ob := (True ∧ True)) (st' := (⟨24, [(4, [], .v (.c (.p (.int .i64) (1 : Int))))], []⟩ : St)) (by kernel_rfl) ⟨trivial, trivial⟩ ?_
    refine awl_nil ?_
    refine thenQ_n ?_
    refine aw_ret ?_
    refine thenQ_r ?_
    exact retQ_r (σ := Int) (R := (fun y => [toV1 (.int .i64) y])) (ob := (True ∧ True)) (1 : Int) (by kernel_rfl) ⟨trivial, trivial⟩ h
  · have h := h.2 hb
    refine aw_skip ?_
    refine thenQ_n ?_
    refine aw_seq ?_
    refine aw_seq ?_
    refine aw_region ?_
    refine awl_runp 3 [0, 10, 11, 12] [] (ob := (True ∧ True ∧ True ∧ True)) (st' := (⟨24, [(0, [], .v (.c (.p (.int .i64) k))), (10, [], .v (.c (.p (.sl (.int .i64)) w))), (11, [], .v (.c (.p (.int .i64) (w.length : Int)))), (12, [], .v (.c (.p (.int .i64) (0 : Int))))], []⟩ : St)) (by kernel_rfl) ⟨trivial, trivial, trivial, trivial⟩ ?_
    refine awl_nil ?_
    refine thenQ_n ?_
    refine withJoin (σ := Unit) (fun s => (⟨24, [], []⟩ : St)) (fun s => VC17_k1 K) (fun s h => ?_) (fun rest1 => ?_)
    · have h : VC17_k1 K := h
      unfold VC17_k1 at h
      refine thenQ_n ?_
      refine aw_seq ?_
      refine aw_region ?_
      refine awl_runp 1 [4] [] (ob := (True ∧ True)) (st' := (⟨24, [(4, [], .v (.c (.p (.int .i64) (0 : Int))))], []⟩ : St)) (by kernel_rfl) ⟨trivial, trivial⟩ ?_
      refine awl_nil ?_
      refine thenQ_n ?_
      refine aw_ret ?_
      exact retQ_r (σ := Int) (R := (fun y => [toV1 (.int .i64) y])) (ob := (True ∧ True)) (0 : Int) (by kernel_rfl) ⟨trivial, trivial⟩ h
    · refine aw_block ?_
      refine aw_loop (σ := Int) (fun s => (⟨24, [(0, [], .v (.c (.p (.int .i64) k))), (10, [], .v (.c (.p (.sl (.int .i64)) w))), (11, [], .v (.c (.p (.int .i64) (w.length : Int)))), (12, [], .v (.c (.p (.int .i64) s)))], []⟩ : St)) (fun s X => VC17_l1 k w K s X) (s0 := (0 : Int)) (fun v12 X1 h => ?_) h
      have h : VC17_l1 k w K v12 X1 := h
      unfold VC17_l1 at h
      refine aw_seq ?_
      refine aw_region ?_
      refine awl_runp 1 [0, 10, 11, 12, 13] [] (ob := (True ∧ True)) (st' := (⟨24, [(0, [], .v (.c (.p (.int .i64) k))), (10, [], .v (.c (.p (.sl (.int .i64)) w))), (11, [], .v (.c (.p (.int .i64) (w.length : Int)))), (12, [], .v (.c (.p (.int .i64) v12))), (13, [], .v (.c (.p .bool (decide (v12 < (w.length : Int))))))], []⟩ : St)) (by kernel_rfl) ⟨trivial, trivial⟩ ?_
      refine awl_nil ?_
      refine thenQ_n ?_
      refine aw_seq ?_
      refine aw_cond (b := (decide (v12 < (w.length : Int)))) (by kernel_rfl) (fun hb => ?_) (fun hb => ?_)
      · have h := h.1 hb
        refine aw_skip ?_
        refine thenQ_n ?_
        refine aw_seq ?_
        refine aw_block ?_
        refine aw_seq ?_
        refine aw_region ?_
        obtain ⟨o1, h⟩ := h
        refine awl_runp 3 [0, 6, 10, 11, 12] [] (ob := (inIdx v12 w.length ∧ True ∧ True ∧ True)) (st' := (⟨24, [(0, [], .v (.c (.p (.int .i64) k))), (6, [], .v (.c (.p (.int .i64) (w.getD (v12).toNat (0 : Int))))), (10, [], .v (.c (.p (.sl (.int .i64)) w))), (11, [], .v (.c (.p (.int .i64) (w.length : Int)))), (12, [], .v (.c (.p (.int .i64) v12)))], []⟩ : St)) (by kernel_rfl) ⟨o1, trivial, trivial, trivial⟩ ?_
        refine awl_nil ?_
        refine thenQ_n ?_
        refine aw_seq ?_
        refine aw_region ?_
        refine awl_runp 7 [0, 10, 11, 12, 22] [] (ob := (True ∧ True ∧ True ∧ ((decide ((w.getD (v12).toNat (0 : Int)) < (0 : Int))) = false → True) ∧ ((decide ((w.getD (v12).toNat (0 : Int)) < (0 : Int))) = false → True) ∧ ((decide ((w.getD (v12).toNat (0 : Int)) < (0 : Int))) = false → True) ∧ True ∧ True)) (st' := (⟨24, [(0, [], .v (.c (.p (.int .i64) k))), (10, [], .v (.c (.p (.sl (.int .i64)) w))), (11, [], .v (.c (.p (.int .i64) (w.length : Int)))), (12, [], .v (.c (.p (.int .i64) v12))), (22, [], .v (.c (.p .bool ((decide ((w.getD (v12).toNat (0 : Int)) < (0 : Int))) || (decide (k ≤ (w.getD (v12).toNat (0 : Int))))))))], []⟩ : St)) (by kernel_rfl) ⟨trivial, trivial, trivial, (fun _ => trivial), (fun _ => trivial), (fun _ => trivial), trivial, trivial⟩ ?_
        refine awl_nil ?_
        refine thenQ_n ?_
        refine aw_cond (b := ((decide ((w.getD (v12).toNat (0 : Int)) < (0 : Int))) || (decide (k ≤ (w.getD (v12).toNat (0 : Int)))))) (by kernel_rfl) (fun hb => ?_) (fun hb => ?_)
        · have h := h.1 hb
          refine aw_seq ?_
          refine aw_region ?_
          refine awl_runp 1 [4] [] (ob := (True ∧ True)) (st' := (⟨24, [(4, [], .v (.c (.p (.int .i64) (2 : Int))))], []⟩ : St)) (by kernel_rfl) ⟨trivial, trivial⟩ ?_
          refine awl_nil ?_
          refine thenQ_n ?_
          refine aw_ret ?_
          refine blockQ_r ?_
          refine thenQ_r ?_
          refine thenQ_r ?_
          refine blockQ_r ?_
          refine thenQ_r ?_
          exact retQ_r (σ := Int) (R := (fun y => [toV1 (.int .i64) y])) (ob := (True ∧ True)) (2 : Int) (by kernel_rfl) ⟨trivial, trivial⟩ h
        · have h := h.2 hb
          refine aw_skip ?_
          refine blockQ_n ?_
          refine thenQ_n ?_
          refine aw_region ?_
          obtain ⟨o1, h⟩ := h
          refine awl_runp 2 [0, 10, 11, 12] [] (ob := (InR (v12 + (1 : Int)) ∧ True ∧ True)) (st' := (⟨24, [(0, [], .v (.c (.p (.int .i64) k))), (10, [], .v (.c (.p (.sl (.int .i64)) w))), (11, [], .v (.c (.p (.int .i64) (w.length : Int)))), (12, [], .v (.c (.p (.int .i64) (v12 + (1 : Int)))))], []⟩ : St)) (by kernel_rfl) ⟨o1, trivial, trivial⟩ ?_
          refine awl_nil ?_
          exact thenQ_n ⟨(v12 + (1 : Int)), rfl, h⟩
      · have h := h.2 hb
        refine aw_conv [.prune [] []] (st' := (⟨24, [], []⟩ : St)) (by kernel_rfl) ?_
        refine aw_exit ?_
        refine thenQ_x ?_
        refine thenQ_x ?_
        refine blockQ_hit ?_
        exact rest1 () h

-- coppicer/coppicerkeep.good
def VC16 (m : (Int × (Int × ((List (List Int)) × (Int × Int))))) (w : (List Int)) (K : Bool → Prop) : Prop :=
  VC26 m (fun (ret6v : Int) => gcall (α := Int) (decide (ret6v = (0 : Int))) (VC17 m.2.1 w) (0 : Int) (fun (ret12v : Int) => K ((decide (ret6v = (0 : Int))) && (decide (ret12v = (0 : Int))))))

set_option maxHeartbeats 4000000 in
theorem link16 (m : (Int × (Int × ((List (List Int)) × (Int × Int))))) (w : (List Int)) (K : Bool → Prop) (h : VC16 m w K) : ACalls Try.prog 16 [toV1 (.pr (.int .i64) (.pr (.int .i64) (.pr (.sl (.sl (.int .i64))) (.pr (.int .i64) (.int .u32))))) m, toV1 (.sl (.int .i64)) w] (fun res => ∃ y, res = (fun y => [toV1 .bool y]) y ∧ K y) := by
  refine acalls_of_aw [.bool] [.t 4] Try.func16 rfl rfl rfl ?_
  unfold VC16 at h
  refine aw_seq ?_
  refine aw_region ?_
  refine awl_runp 2 [1, 2] [2] (ob := (True ∧ True ∧ True)) (st' := (⟨15, [(1, [], .v (.c (.p (.sl (.int .i64)) w))), (2, [], .v (.c (.ptr 2 0)))], [(2, [], .box [.p (.int .i64) m.1, .p (.int .i64) m.2.1, .p (.sl (.sl (.int .i64))) m.2.2.1, .p (.int .i64) m.2.2.2.1, .p (.int .u32) m.2.2.2.2])]⟩ : St)) (by kernel_rfl) ⟨trivial, trivial, trivial⟩ ?_
  refine awl_nil ?_
  refine thenQ_n ?_
  refine aw_seq ?_
  refine aw_region ?_
  refine awl_runp 1 [1, 2, 5] [2] (ob := (True ∧ True)) (st' := (⟨15, [(1, [], .v (.c (.p (.sl (.int .i64)) w))), (2, [], .v (.c (.ptr 2 0))), (5, [], .v (.agg [.p (.int .i64) m.1, .p (.int .i64) m.2.1, .p (.sl (.sl (.int .i64))) m.2.2.1, .p (.int .i64) m.2.2.2.1, .p (.int .u32) m.2.2.2.2]))], [(2, [], .box [.p (.int .i64) m.1, .p (.int .i64) m.2.1, .p (.sl (.sl (.int .i64))) m.2.2.1, .p (.int .i64) m.2.2.2.1, .p (.int .u32) m.2.2.2.2])]⟩ : St)) (by kernel_rfl) ⟨trivial, trivial⟩ ?_
  refine awl_callk (p := []) (l := [toV1 (.pr (.int .i64) (.pr (.int .i64) (.pr (.sl (.sl (.int .i64))) (.pr (.int .i64) (.int .u32))))) m]) (cl := []) false [.d (.pr (.int .i64) (.pr (.int .i64) (.pr (.sl (.sl (.int .i64))) (.pr (.int .i64) (.int .u32)))))] [1, 2, 6] [2] (fun (ret6v : Int) => gcall (α := Int) (decide (ret6v = (0 : Int))) (VC17 m.2.1 w) (0 : Int) (fun (ret12v : Int) => K ((decide (ret6v = (0 : Int))) && (decide (ret12v = (0 : Int)))))) (fun ret6v => [toV1 (.int .i64) ret6v]) (fun ret6v => (⟨15, [(1, [], .v (.c (.p (.sl (.int .i64)) w))), (2, [], .v (.c (.ptr 2 0))), (6, [], .v (.c (.p (.int .i64) ret6v)))], [(2, [], .box [.p (.int .i64) m.1, .p (.int .i64) m.2.1, .p (.sl (.sl (.int .i64))) m.2.2.1, .p (.int .i64) m.2.2.2.1, .p (.int .u32) m.2.2.2.2])]⟩ : St)) (by kernel_rfl) rfl (by kernel_rfl) rfl (by kernel_rfl) Try.call26 (by kernel_rfl) (fun ret6v => by kernel_rfl) (fun e => by cases e) (fun hg => link26 m _ h) (fun hg => noF hg) (fun ret6v h => ?_)
  have h : gcall (α := Int) (decide (ret6v = (0 : Int))) (VC17 m.2.1 w) (0 : Int) (fun (ret12v : Int) => K ((decide (ret6v = (0 : Int))) && (decide (ret12v = (0 : Int))))) := h
  refine awl_runp 5 [8, 10, 11] [] (ob := (True ∧ True ∧ ((decide (ret6v = (0 : Int))) = true → True) ∧ ((decide (ret6v = (0 : Int))) = true → True) ∧ ((decide (ret6v = (0 : Int))) = true → True) ∧ True)) (st' := (⟨15, [(8, [], .v (.c (.p .bool (decide (ret6v = (0 : Int)))))), (10, [(8, true)], .v (.c (.p (.int .i64) m.2.1))), (11, [(8, true)], .v (.c (.p (.sl (.int .i64)) w)))], []⟩ : St)) (by kernel_rfl) ⟨trivial, trivial, (fun _ => trivial), (fun _ => trivial), (fun _ => trivial), trivial⟩ ?_
  refine awl_callk (p := [(8, true)]) (l := [toV1 (.int .i64) m.2.1, toV1 (.sl (.int .i64)) w]) (cl := []) false [.d (.int .i64), .d (.sl (.int .i64))] [8, 12] [] (fun (ret12v : Int) => K ((decide (ret6v = (0 : Int))) && (decide (ret12v = (0 : Int))))) (fun ret12v => [toV1 (.int .i64) ret12v]) (fun ret12v => (⟨15, [(8, [], .v (.c (.p .bool (decide (ret6v = (0 : Int)))))), (12, [(8, true)], .v (.c (.p (.int .i64) ret12v)))], []⟩ : St)) (by kernel_rfl) rfl (by kernel_rfl) rfl (by kernel_rfl) Try.call17 (by kernel_rfl) (fun ret12v => by kernel_rfl) (fun e => by cases e) (fun hg => link17 m.2.1 w _ (by have := gcall_T h (show (decide (ret6v = (0 : Int))) = true from hg); exact this)) (fun hg => ⟨(0 : Int), by have := gcall_F h (show (decide (ret6v = (0 : Int))) = false from hg); exact this⟩) (fun ret12v h => ?_)
  have h : K ((decide (ret6v = (0 : Int))) && (decide (ret12v = (0 : Int)))) := h
  refine awl_runp 3 [4] [] (ob := (((decide (ret6v = (0 : Int))) = true → True) ∧ True ∧ True ∧ True)) (st' := (⟨15, [(4, [], .v (.c (.p .bool ((decide (ret6v = (0 : Int))) && (decide (ret12v = (0 : Int)))))))], []⟩ : St)) (by kernel_rfl) ⟨(fun _ => trivial), trivial, trivial, trivial⟩ ?_
  refine awl_nil ?_
  refine thenQ_n ?_
  refine aw_ret ?_
  exact retQ_r (σ := Bool) (R := (fun y => [toV1 .bool y])) (ob := (True ∧ True)) ((decide (ret6v = (0 : Int))) && (decide (ret12v = (0 : Int)))) (by kernel_rfl) ⟨trivial, trivial⟩ h

-- coppicer/coppicerkeep.MachineFront
def VC3 (m : (Int × (Int × ((List (List Int)) × (Int × Int))))) (u : (List Int)) (v : (List Int)) (K : Bool → Prop) : Prop :=
  VC15 m u (fun (ret20v : Int × Bool × Int) => VC16 m u (fun (ret26v : Bool) => (((!ret26v) = true → K (!decide (ret20v.2.2 = (0 : Int)))) ∧ ((!ret26v) = false → (roomN (([] : List Int).length + u.length) ∧ (roomN ((([] : List Int) ++ u).length + v.length) ∧ VC15 m ((([] : List Int) ++ u) ++ v) (fun (ret37v : Int × Bool × Int) => (((((!decide (ret20v.2.2 = (0 : Int))) || (decide (ret20v.1 < (0 : Int)))) || (decide (m.1 ≤ ret20v.1))) = true → K false) ∧ ((((!decide (ret20v.2.2 = (0 : Int))) || (decide (ret20v.1 < (0 : Int)))) || (decide (m.1 ≤ ret20v.1))) = false → (((!decide (ret37v.2.2 = (0 : Int))) = true → (InR ((u.length : Int) + (v.length : Int)) ∧ gcall (α := Int) (!(decide ((12 : Int) < ((u.length : Int) + (v.length : Int))))) (VC17 m.2.1 v) (0 : Int) (fun (ret65v : Int) => K ((decide ((12 : Int) < ((u.length : Int) + (v.length : Int)))) || (!decide (ret65v = (0 : Int))))))) ∧ ((!decide (ret37v.2.2 = (0 : Int))) = false → VC15 (m.1, (m.2.1, (m.2.2.1, (ret20v.1, m.2.2.2.2)))) v (fun (ret74v : Int × Bool × Int) => K (((decide (ret74v.2.2 = (0 : Int))) && (decide (ret37v.1 = ret74v.1))) && (ret37v.2.1 == ret74v.2.1))))))))))))))

set_option maxHeartbeats 4000000 in
theorem link3 (m : (Int × (Int × ((List (List Int)) × (Int × Int))))) (u : (List Int)) (v : (List Int)) (K : Bool → Prop) (h : VC3 m u v K) : ACalls Try.prog 3 [toV1 (.pr (.int .i64) (.pr (.int .i64) (.pr (.sl (.sl (.int .i64))) (.pr (.int .i64) (.int .u32))))) m, toV1 (.sl (.int .i64)) u, toV1 (.sl (.int .i64)) v] (fun res => ∃ y, res = (fun y => [toV1 .bool y]) y ∧ K y) := by
  refine acalls_of_aw [.bool] [.t 6] Try.func3 rfl rfl rfl ?_
  unfold VC3 at h
  refine aw_seq ?_
  refine aw_region ?_
  refine awl_runp 2 [1, 2, 3] [3] (ob := (True ∧ True ∧ True)) (st' := (⟨90, [(1, [], .v (.c (.p (.sl (.int .i64)) u))), (2, [], .v (.c (.p (.sl (.int .i64)) v))), (3, [], .v (.c (.ptr 3 0)))], [(3, [], .box [.p (.int .i64) m.1, .p (.int .i64) m.2.1, .p (.sl (.sl (.int .i64))) m.2.2.1, .p (.int .i64) m.2.2.2.1, .p (.int .u32) m.2.2.2.2])]⟩ : St)) (by kernel_rfl) ⟨trivial, trivial, trivial⟩ ?_
  refine awl_nil ?_
  refine thenQ_n ?_
  refine aw_seq ?_
  refine aw_region ?_
  refine awl_runp 2 [1, 2, 3, 18, 19] [3] (ob := (True ∧ True ∧ True)) (st' := (⟨90, [(1, [], .v (.c (.p (.sl (.int .i64)) u))), (2, [], .v (.c (.p (.sl (.int .i64)) v))), (3, [], .v (.c (.ptr 3 0))), (18, [], .v (.agg [.p (.int .i64) m.1, .p (.int .i64) m.2.1, .p (.sl (.sl (.int .i64))) m.2.2.1, .p (.int .i64) m.2.2.2.1, .p (.int .u32) m.2.2.2.2])), (19, [], .v (.c (.p (.sl (.int .i64)) u)))], [(3, [], .box [.p (.int .i64) m.1, .p (.int .i64) m.2.1, .p (.sl (.sl (.int .i64))) m.2.2.1, .p (.int .i64) m.2.2.2.1, .p (.int .u32) m.2.2.2.2])]⟩ : St)) (by kernel_rfl) ⟨trivial, trivial, trivial⟩ ?_
  refine awl_callk (p := []) (l := [toV1 (.pr (.int .i64) (.pr (.int .i64) (.pr (.sl (.sl (.int .i64))) (.pr (.int .i64) (.int .u32))))) m, toV1 (.sl (.int .i64)) u]) (cl := []) false [.d (.pr (.int .i64) (.pr (.int .i64) (.pr (.sl (.sl (.int .i64))) (.pr (.int .i64) (.int .u32))))), .d (.sl (.int .i64))] [1, 2, 3, 20] [3] (fun (ret20v : Int × Bool × Int) => VC16 m u (fun (ret26v : Bool) => (((!ret26v) = true → K (!decide (ret20v.2.2 = (0 : Int)))) ∧ ((!ret26v) = false → (roomN (([] : List Int).length + u.length) ∧ (roomN ((([] : List Int) ++ u).length + v.length) ∧ VC15 m ((([] : List Int) ++ u) ++ v) (fun (ret37v : Int × Bool × Int) => (((((!decide (ret20v.2.2 = (0 : Int))) || (decide (ret20v.1 < (0 : Int)))) || (decide (m.1 ≤ ret20v.1))) = true → K false) ∧ ((((!decide (ret20v.2.2 = (0 : Int))) || (decide (ret20v.1 < (0 : Int)))) || (decide (m.1 ≤ ret20v.1))) = false → (((!decide (ret37v.2.2 = (0 : Int))) = true → (InR ((u.length : Int) + (v.length : Int)) ∧ gcall (α := Int) (!(decide ((12 : Int) < ((u.length : Int) + (v.length : Int))))) (VC17 m.2.1 v) (0 : Int) (fun (ret65v : Int) => K ((decide ((12 : Int) < ((u.length : Int) + (v.length : Int)))) || (!decide (ret65v = (0 : Int))))))) ∧ ((!decide (ret37v.2.2 = (0 : Int))) = false → VC15 (m.1, (m.2.1, (m.2.2.1, (ret20v.1, m.2.2.2.2)))) v (fun (ret74v : Int × Bool × Int) => K (((decide (ret74v.2.2 = (0 : Int))) && (decide (ret37v.1 = ret74v.1))) && (ret37v.2.1 == ret74v.2.1)))))))))))))) (fun ret20v => [toV1 (.int .i64) ret20v.1, toV1 .bool ret20v.2.1, toV1 (.int .i64) ret20v.2.2]) (fun ret20v => (⟨90, [(1, [], .v (.c (.p (.sl (.int .i64)) u))), (2, [], .v (.c (.p (.sl (.int .i64)) v))), (3, [], .v (.c (.ptr 3 0))), (20, [], .tup [.c (.p (.int .i64) ret20v.1), .c (.p .bool ret20v.2.1), .c (.p (.int .i64) ret20v.2.2)])], [(3, [], .box [.p (.int .i64) m.1, .p (.int .i64) m.2.1, .p (.sl (.sl (.int .i64))) m.2.2.1, .p (.int .i64) m.2.2.2.1, .p (.int .u32) m.2.2.2.2])]⟩ : St)) (by kernel_rfl) rfl (by kernel_rfl) rfl (by kernel_rfl) Try.call15 (by kernel_rfl) (fun ret20v => by kernel_rfl) (fun e => by cases e) (fun hg => link15 m u _ h) (fun hg => noF hg) (fun ret20v h => ?_)
  have h : VC16 m u (fun (ret26v : Bool) => (((!ret26v) = true → K (!decide (ret20v.2.2 = (0 : Int)))) ∧ ((!ret26v) = false → (roomN (([] : List Int).length + u.length) ∧ (roomN ((([] : List Int) ++ u).length + v.length) ∧ VC15 m ((([] : List Int) ++ u) ++ v) (fun (ret37v : Int × Bool × Int) => (((((!decide (ret20v.2.2 = (0 : Int))) || (decide (ret20v.1 < (0 : Int)))) || (decide (m.1 ≤ ret20v.1))) = true → K false) ∧ ((((!decide (ret20v.2.2 = (0 : Int))) || (decide (ret20v.1 < (0 : Int)))) || (decide (m.1 ≤ ret20v.1))) = false → (((!decide (ret37v.2.2 = (0 : Int))) = true → (InR ((u.length : Int) + (v.length : Int)) ∧ gcall (α := Int) (!(decide ((12 : Int) < ((u.length : Int) + (v.length : Int))))) (VC17 m.2.1 v) (0 : Int) (fun (ret65v : Int) => K ((decide ((12 : Int) < ((u.length : Int) + (v.length : Int)))) || (!decide (ret65v = (0 : Int))))))) ∧ ((!decide (ret37v.2.2 = (0 : Int))) = false → VC15 (m.1, (m.2.1, (m.2.2.1, (ret20v.1, m.2.2.2.2)))) v (fun (ret74v : Int × Bool × Int) => K (((decide (ret74v.2.2 = (0 : Int))) && (decide (ret37v.1 = ret74v.1))) && (ret37v.2.1 == ret74v.2.1))))))))))))) := h
  refine awl_runp 7 [1, 2, 3, 7, 9] [3] (ob := (True ∧ True ∧ True ∧ True ∧ True ∧ True ∧ True ∧ True)) (st' := (⟨90, [(1, [], .v (.c (.p (.sl (.int .i64)) u))), (2, [], .v (.c (.p (.sl (.int .i64)) v))), (3, [], .v (.c (.ptr 3 0))), (7, [], .v (.c (.p (.int .i64) ret20v.1))), (9, [], .v (.c (.p (.int .i64) ret20v.2.2)))], [(3, [], .box [.p (.int .i64) m.1, .p (.int .i64) m.2.1, .p (.sl (.sl (.int .i64))) m.2.2.1, .p (.int .i64) m.2.2.2.1, .p (.int .u32) m.2.2.2.2])]⟩ : St)) (by kernel_rfl) ⟨trivial, trivial, trivial, trivial, trivial, trivial, trivial, trivial⟩ ?_
  refine awl_nil ?_
  refine thenQ_n ?_
  refine aw_seq ?_
  refine aw_seq ?_
  refine aw_region ?_
  refine awl_runp 2 [1, 2, 3, 7, 9, 24, 25] [3] (ob := (True ∧ True ∧ True)) (st' := (⟨90, [(1, [], .v (.c (.p (.sl (.int .i64)) u))), (2, [], .v (.c (.p (.sl (.int .i64)) v))), (3, [], .v (.c (.ptr 3 0))), (7, [], .v (.c (.p (.int .i64) ret20v.1))), (9, [], .v (.c (.p (.int .i64) ret20v.2.2))), (24, [], .v (.agg [.p (.int .i64) m.1, .p (.int .i64) m.2.1, .p (.sl (.sl (.int .i64))) m.2.2.1, .p (.int .i64) m.2.2.2.1, .p (.int .u32) m.2.2.2.2])), (25, [], .v (.c (.p (.sl (.int .i64)) u)))], [(3, [], .box [.p (.int .i64) m.1, .p (.int .i64) m.2.1, .p (.sl (.sl (.int .i64))) m.2.2.1, .p (.int .i64) m.2.2.2.1, .p (.int .u32) m.2.2.2.2])]⟩ : St)) (by kernel_rfl) ⟨trivial, trivial, trivial⟩ ?_
  refine awl_callk (p := []) (l := [toV1 (.pr (.int .i64) (.pr (.int .i64) (.pr (.sl (.sl (.int .i64))) (.pr (.int .i64) (.int .u32))))) m, toV1 (.sl (.int .i64)) u]) (cl := []) false [.d (.pr (.int .i64) (.pr (.int .i64) (.pr (.sl (.sl (.int .i64))) (.pr (.int .i64) (.int .u32))))), .d (.sl (.int .i64))] [1, 2, 3, 7, 9, 26] [3] (fun (ret26v : Bool) => (((!ret26v) = true → K (!decide (ret20v.2.2 = (0 : Int)))) ∧ ((!ret26v) = false → (roomN (([] : List Int).length + u.length) ∧ (roomN ((([] : List Int) ++ u).length + v.length) ∧ VC15 m ((([] : List Int) ++ u) ++ v) (fun (ret37v : Int × Bool × Int) => (((((!decide (ret20v.2.2 = (0 : Int))) || (decide (ret20v.1 < (0 : Int)))) || (decide (m.1 ≤ ret20v.1))) = true → K false) ∧ ((((!decide (ret20v.2.2 = (0 : Int))) || (decide (ret20v.1 < (0 : Int)))) || (decide (m.1 ≤ ret20v.1))) = false → (((!decide (ret37v.2.2 = (0 : Int))) = true → (InR ((u.length : Int) + (v.length : Int)) ∧ gcall (α := Int) (!(decide ((12 : Int) < ((u.length : Int) + (v.length : Int))))) (VC17 m.2.1 v) (0 : Int) (fun (ret65v : Int) => K ((decide ((12 : Int) < ((u.length : Int) + (v.length : Int)))) || (!decide (ret65v = (0 : Int))))))) ∧ ((!decide (ret37v.2.2 = (0 : Int))) = false → VC15 (m.1, (m.2.1, (m.2.2.1, (ret20v.1, m.2.2.2.2)))) v (fun (ret74v : Int × Bool × Int) => K (((decide (ret74v.2.2 = (0 : Int))) && (decide (ret37v.1 = ret74v.1))) && (ret37v.2.1 == ret74v.2.1))))))))))))) (fun ret26v => [toV1 .bool ret26v]) (fun ret26v => (⟨90, [(1, [], .v (.c (.p (.sl (.int .i64)) u))), (2, [], .v (.c (.p (.sl (.int .i64)) v))), (3, [], .v (.c (.ptr 3 0))), (7, [], .v (.c (.p (.int .i64) ret20v.1))), (9, [], .v (.c (.p (.int .i64) ret20v.2.2))), (26, [], .v (.c (.p .bool ret26v)))], [(3, [], .box [.p (.int .i64) m.1, .p (.int .i64) m.2.1, .p (.sl (.sl (.int .i64))) m.2.2.1, .p (.int .i64) m.2.2.2.1, .p (.int .u32) m.2.2.2.2])]⟩ : St)) (by kernel_rfl) rfl (by kernel_rfl) rfl (by kernel_rfl) Try.call16 (by kernel_rfl) (fun ret26v => by kernel_rfl) (fun e => by cases e) (fun hg => link16 m u _ h) (fun hg => noF hg) (fun ret26v h => ?_)
  have h : (((!ret26v) = true → K (!decide (ret20v.2.2 = (0 : Int)))) ∧ ((!ret26v) = false → (roomN (([] : List Int).length + u.length) ∧ (roomN ((([] : List Int) ++ u).length + v.length) ∧ VC15 m ((([] : List Int) ++ u) ++ v) (fun (ret37v : Int × Bool × Int) => (((((!decide (ret20v.2.2 = (0 : Int))) || (decide (ret20v.1 < (0 : Int)))) || (decide (m.1 ≤ ret20v.1))) = true → K false) ∧ ((((!decide (ret20v.2.2 = (0 : Int))) || (decide (ret20v.1 < (0 : Int)))) || (decide (m.1 ≤ ret20v.1))) = false → (((!decide (ret37v.2.2 = (0 : Int))) = true → (InR ((u.length : Int) + (v.length : Int)) ∧ gcall (α := Int) (!(decide ((12 : Int) < ((u.length : Int) + (v.length : Int))))) (VC17 m.2.1 v) (0 : Int) (fun (ret65v : Int) => K ((decide ((12 : Int) < ((u.length : Int) + (v.length : Int)))) || (!decide (ret65v = (0 : Int))))))) ∧ ((!decide (ret37v.2.2 = (0 : Int))) = false → VC15 (m.1, (m.2.1, (m.2.2.1, (ret20v.1, m.2.2.2.2)))) v (fun (ret74v : Int × Bool × Int) => K (((decide (ret74v.2.2 = (0 : Int))) && (decide (ret37v.1 = ret74v.1))) && (ret37v.2.1 == ret74v.2.1)))))))))))) := h
  refine awl_runp 1 [1, 2, 3, 7, 9, 27] [3] (ob := (True ∧ True)) (st' := (⟨90, [(1, [], .v (.c (.p (.sl (.int .i64)) u))), (2, [], .v (.c (.p (.sl (.int .i64)) v))), (3, [], .v (.c (.ptr 3 0))), (7, [], .v (.c (.p (.int .i64) ret20v.1))), (9, [], .v (.c (.p (.int .i64) ret20v.2.2))), (27, [], .v (.c (.p .bool (!ret26v))))], [(3, [], .box [.p (.int .i64) m.1, .p (.int .i64) m.2.1, .p (.sl (.sl (.int .i64))) m.2.2.1, .p (.int .i64) m.2.2.2.1, .p (.int .u32) m.2.2.2.2])]⟩ : St)) (by kernel_rfl) ⟨trivial, trivial⟩ ?_
  refine awl_nil ?_
  refine thenQ_n ?_
  refine aw_cond (b := (!ret26v)) (by kernel_rfl) (fun hb => ?_) (fun hb => ?_)
  · have h := h.1 hb
    refine aw_seq ?_
    refine aw_region ?_
    refine awl_runp 3 [6] [] (ob := (True ∧ True ∧ True ∧ True)) (st' := (⟨90, [(6, [], .v (.c (.p .bool (!decide (ret20v.2.2 = (0 : Int))))))], []⟩ : St)) (by kernel_rfl) ⟨trivial, trivial, trivial, trivial⟩ ?_
    refine awl_nil ?_
    refine thenQ_n ?_
    refine aw_ret ?_
    refine thenQ_r ?_
    exact retQ_r (σ := Bool) (R := (fun y => [toV1 .bool y])) (ob := (True ∧ True)) (!decide (ret20v.2.2 = (0 : Int))) (by kernel_rfl) ⟨trivial, trivial⟩ h
  · have h := h.2 hb
    refine aw_skip ?_
    refine thenQ_n ?_
    refine aw_seq ?_
    refine awd_begin [32, 34] (by kernel_rfl) ?_
    refine awd_runp (by kernel_rfl) [0, 2, 4] [1, 2, 3, 7, 9, 31, 33, 35] [3] (ob := (True ∧ True ∧ True ∧ True)) (done' := [4, 2, 0]) (st' := (⟨90, [(1, [], .v (.c (.p (.sl (.int .i64)) u))), (2, [], .v (.c (.p (.sl (.int .i64)) v))), (3, [], .v (.c (.ptr 3 0))), (7, [], .v (.c (.p (.int .i64) ret20v.1))), (9, [], .v (.c (.p (.int .i64) ret20v.2.2))), (31, [], .v (.agg [.p (.int .i64) m.1, .p (.int .i64) m.2.1, .p (.sl (.sl (.int .i64))) m.2.2.1, .p (.int .i64) m.2.2.2.1, .p (.int .u32) m.2.2.2.2])), (33, [], .v (.c (.p (.sl (.int .i64)) u))), (35, [], .v (.c (.p (.sl (.int .i64)) v)))], [(3, [], .box [.p (.int .i64) m.1, .p (.int .i64) m.2.1, .p (.sl (.sl (.int .i64))) m.2.2.1, .p (.int .i64) m.2.2.2.1, .p (.int .u32) m.2.2.2.2])]⟩ : St)) (by kernel_rfl) ⟨trivial, trivial, trivial, trivial⟩ ?_
    refine awd_one (i := 1) (by kernel_rfl) ?_
    refine adop_stepp [1, 2, 3, 7, 9, 31, 32, 33, 35] [3, 32] (ob := True) (st' := (⟨90, [(1, [], .v (.c (.p (.sl (.int .i64)) u))), (2, [], .v (.c (.p (.sl (.int .i64)) v))), (3, [], .v (.c (.ptr 3 0))), (7, [], .v (.c (.p (.int .i64) ret20v.1))), (9, [], .v (.c (.p (.int .i64) ret20v.2.2))), (31, [], .v (.agg [.p (.int .i64) m.1, .p (.int .i64) m.2.1, .p (.sl (.sl (.int .i64))) m.2.2.1, .p (.int .i64) m.2.2.2.1, .p (.int .u32) m.2.2.2.2])), (32, [], .v (.c (.own 32))), (33, [], .v (.c (.p (.sl (.int .i64)) u))), (35, [], .v (.c (.p (.sl (.int .i64)) v)))], [(3, [], .box [.p (.int .i64) m.1, .p (.int .i64) m.2.1, .p (.sl (.sl (.int .i64))) m.2.2.1, .p (.int .i64) m.2.2.2.1, .p (.int .u32) m.2.2.2.2]), (32, [], .arr 3 (.int .i64) ([] : List Int))]⟩ : St)) rfl (by kernel_rfl) trivial ?_
    refine awd_one (i := 3) (by kernel_rfl) ?_
    obtain ⟨o1, h⟩ := h
    refine adop_stepp [1, 2, 3, 7, 9, 31, 34, 35] [3, 34] (ob := roomN (([] : List Int).length + u.length)) (st' := (⟨90, [(1, [], .v (.c (.p (.sl (.int .i64)) u))), (2, [], .v (.c (.p (.sl (.int .i64)) v))), (3, [], .v (.c (.ptr 3 0))), (7, [], .v (.c (.p (.int .i64) ret20v.1))), (9, [], .v (.c (.p (.int .i64) ret20v.2.2))), (31, [], .v (.agg [.p (.int .i64) m.1, .p (.int .i64) m.2.1, .p (.sl (.sl (.int .i64))) m.2.2.1, .p (.int .i64) m.2.2.2.1, .p (.int .u32) m.2.2.2.2])), (34, [], .v (.c (.own 34))), (35, [], .v (.c (.p (.sl (.int .i64)) v)))], [(3, [], .box [.p (.int .i64) m.1, .p (.int .i64) m.2.1, .p (.sl (.sl (.int .i64))) m.2.2.1, .p (.int .i64) m.2.2.2.1, .p (.int .u32) m.2.2.2.2]), (34, [], .arr 3 (.int .i64) (([] : List Int) ++ u))]⟩ : St)) rfl (by kernel_rfl) o1 ?_
    refine awd_one (i := 5) (by kernel_rfl) ?_
    obtain ⟨o1, h⟩ := h
    refine adop_stepp [1, 2, 3, 7, 9, 31, 36] [3, 36] (ob := roomN ((([] : List Int) ++ u).length + v.length)) (st' := (⟨90, [(1, [], .v (.c (.p (.sl (.int .i64)) u))), (2, [], .v (.c (.p (.sl (.int .i64)) v))), (3, [], .v (.c (.ptr 3 0))), (7, [], .v (.c (.p (.int .i64) ret20v.1))), (9, [], .v (.c (.p (.int .i64) ret20v.2.2))), (31, [], .v (.agg [.p (.int .i64) m.1, .p (.int .i64) m.2.1, .p (.sl (.sl (.int .i64))) m.2.2.1, .p (.int .i64) m.2.2.2.1, .p (.int .u32) m.2.2.2.2])), (36, [], .v (.c (.own 36)))], [(3, [], .box [.p (.int .i64) m.1, .p (.int .i64) m.2.1, .p (.sl (.sl (.int .i64))) m.2.2.1, .p (.int .i64) m.2.2.2.1, .p (.int .u32) m.2.2.2.2]), (36, [], .arr 3 (.int .i64) ((([] : List Int) ++ u) ++ v))]⟩ : St)) rfl (by kernel_rfl) o1 ?_
    refine awd_one (i := 6) (by kernel_rfl) ?_
    refine adop_callk (p := []) (l := [toV1 (.pr (.int .i64) (.pr (.int .i64) (.pr (.sl (.sl (.int .i64))) (.pr (.int .i64) (.int .u32))))) m, toV1 (.sl (.int .i64)) ((([] : List Int) ++ u) ++ v)]) (cl := []) true [.d (.pr (.int .i64) (.pr (.int .i64) (.pr (.sl (.sl (.int .i64))) (.pr (.int .i64) (.int .u32))))), .d (.sl (.int .i64))] [1, 2, 3, 7, 9, 37] [3] (fun (ret37v : Int × Bool × Int) => (((((!decide (ret20v.2.2 = (0 : Int))) || (decide (ret20v.1 < (0 : Int)))) || (decide (m.1 ≤ ret20v.1))) = true → K false) ∧ ((((!decide (ret20v.2.2 = (0 : Int))) || (decide (ret20v.1 < (0 : Int)))) || (decide (m.1 ≤ ret20v.1))) = false → (((!decide (ret37v.2.2 = (0 : Int))) = true → (InR ((u.length : Int) + (v.length : Int)) ∧ gcall (α := Int) (!(decide ((12 : Int) < ((u.length : Int) + (v.length : Int))))) (VC17 m.2.1 v) (0 : Int) (fun (ret65v : Int) => K ((decide ((12 : Int) < ((u.length : Int) + (v.length : Int)))) || (!decide (ret65v = (0 : Int))))))) ∧ ((!decide (ret37v.2.2 = (0 : Int))) = false → VC15 (m.1, (m.2.1, (m.2.2.1, (ret20v.1, m.2.2.2.2)))) v (fun (ret74v : Int × Bool × Int) => K (((decide (ret74v.2.2 = (0 : Int))) && (decide (ret37v.1 = ret74v.1))) && (ret37v.2.1 == ret74v.2.1)))))))) (fun ret37v => [toV1 (.int .i64) ret37v.1, toV1 .bool ret37v.2.1, toV1 (.int .i64) ret37v.2.2]) (fun ret37v => (⟨90, [(1, [], .v (.c (.p (.sl (.int .i64)) u))), (2, [], .v (.c (.p (.sl (.int .i64)) v))), (3, [], .v (.c (.ptr 3 0))), (7, [], .v (.c (.p (.int .i64) ret20v.1))), (9, [], .v (.c (.p (.int .i64) ret20v.2.2))), (37, [], .tup [.c (.p (.int .i64) ret37v.1), .c (.p .bool ret37v.2.1), .c (.p (.int .i64) ret37v.2.2)])], [(3, [], .box [.p (.int .i64) m.1, .p (.int .i64) m.2.1, .p (.sl (.sl (.int .i64))) m.2.2.1, .p (.int .i64) m.2.2.2.1, .p (.int .u32) m.2.2.2.2])]⟩ : St)) rfl (by kernel_rfl) rfl (by kernel_rfl) rfl (by kernel_rfl) Try.call15 (by kernel_rfl) (fun ret37v => by kernel_rfl) (fun _ _ => rfl) (fun hg => link15 m ((([] : List Int) ++ u) ++ v) _ h) (fun hg => noF hg) (fun ret37v h => ?_)
    have h : (((((!decide (ret20v.2.2 = (0 : Int))) || (decide (ret20v.1 < (0 : Int)))) || (decide (m.1 ≤ ret20v.1))) = true → K false) ∧ ((((!decide (ret20v.2.2 = (0 : Int))) || (decide (ret20v.1 < (0 : Int)))) || (decide (m.1 ≤ ret20v.1))) = false → (((!decide (ret37v.2.2 = (0 : Int))) = true → (InR ((u.length : Int) + (v.length : Int)) ∧ gcall (α := Int) (!(decide ((12 : Int) < ((u.length : Int) + (v.length : Int))))) (VC17 m.2.1 v) (0 : Int) (fun (ret65v : Int) => K ((decide ((12 : Int) < ((u.length : Int) + (v.length : Int)))) || (!decide (ret65v = (0 : Int))))))) ∧ ((!decide (ret37v.2.2 = (0 : Int))) = false → VC15 (m.1, (m.2.1, (m.2.2.1, (ret20v.1, m.2.2.2.2)))) v (fun (ret74v : Int × Bool × Int) => K (((decide (ret74v.2.2 = (0 : Int))) && (decide (ret37v.1 = ret74v.1))) && (ret37v.2.1 == ret74v.2.1))))))) := h
    refine awd_runp (by kernel_rfl) [7, 8, 9, 10, 11, 12, 13] [1, 2, 3, 7, 9, 10, 11, 12] [3] (ob := (True ∧ True ∧ True ∧ True ∧ True ∧ True ∧ True ∧ True)) (done' := [13, 12, 11, 10, 9, 8, 7, 6, 5, 3, 1, 4, 2, 0]) (st' := (⟨90, [(1, [], .v (.c (.p (.sl (.int .i64)) u))), (2, [], .v (.c (.p (.sl (.int .i64)) v))), (3, [], .v (.c (.ptr 3 0))), (7, [], .v (.c (.p (.int .i64) ret20v.1))), (9, [], .v (.c (.p (.int .i64) ret20v.2.2))), (10, [], .v (.c (.p (.int .i64) ret37v.1))), (11, [], .v (.c (.p .bool ret37v.2.1))), (12, [], .v (.c (.p (.int .i64) ret37v.2.2)))], [(3, [], .box [.p (.int .i64) m.1, .p (.int .i64) m.2.1, .p (.sl (.sl (.int .i64))) m.2.2.1, .p (.int .i64) m.2.2.2.1, .p (.int .u32) m.2.2.2.2])]⟩ : St)) (by kernel_rfl) ⟨trivial, trivial, trivial, trivial, trivial, trivial, trivial, trivial⟩ ?_
    refine awd_done (by kernel_rfl) ?_
    refine thenQ_n ?_
    refine aw_seq ?_
    refine aw_seq ?_
    refine aw_region ?_
    refine awl_runp 12 [1, 2, 3, 7, 10, 11, 12, 52] [3] (ob := (True ∧ True ∧ True ∧ ((!decide (ret20v.2.2 = (0 : Int))) = false → True) ∧ ((!decide (ret20v.2.2 = (0 : Int))) = false → True) ∧ True ∧ True ∧ (((!decide (ret20v.2.2 = (0 : Int))) || (decide (ret20v.1 < (0 : Int)))) = false → True) ∧ (((!decide (ret20v.2.2 = (0 : Int))) || (decide (ret20v.1 < (0 : Int)))) = false → True) ∧ (((!decide (ret20v.2.2 = (0 : Int))) || (decide (ret20v.1 < (0 : Int)))) = false → True) ∧ (((!decide (ret20v.2.2 = (0 : Int))) || (decide (ret20v.1 < (0 : Int)))) = false → True) ∧ True ∧ True)) (st' := (⟨90, [(1, [], .v (.c (.p (.sl (.int .i64)) u))), (2, [], .v (.c (.p (.sl (.int .i64)) v))), (3, [], .v (.c (.ptr 3 0))), (7, [], .v (.c (.p (.int .i64) ret20v.1))), (10, [], .v (.c (.p (.int .i64) ret37v.1))), (11, [], .v (.c (.p .bool ret37v.2.1))), (12, [], .v (.c (.p (.int .i64) ret37v.2.2))), (52, [], .v (.c (.p .bool (((!decide (ret20v.2.2 = (0 : Int))) || (decide (ret20v.1 < (0 : Int)))) || (decide (m.1 ≤ ret20v.1))))))], [(3, [], .box [.p (.int .i64) m.1, .p (.int .i64) m.2.1, .p (.sl (.sl (.int .i64))) m.2.2.1, .p (.int .i64) m.2.2.2.1, .p (.int .u32) m.2.2.2.2])]⟩ : St)) (by kernel_rfl) ⟨trivial, trivial, trivial, (fun _ => trivial), (fun _ => trivial), trivial, trivial, (fun _ => trivial), (fun _ => trivial), (fun _ => trivial), (fun _ => trivial), trivial, trivial⟩ ?_
    refine awl_nil ?_
    refine thenQ_n ?_
    refine aw_cond (b := (((!decide (ret20v.2.2 = (0 : Int))) || (decide (ret20v.1 < (0 : Int)))) || (decide (m.1 ≤ ret20v.1)))) (by kernel_rfl) (fun hb => ?_) (fun hb => ?_)
    · have h := h.1 hb
      refine aw_seq ?_
      refine aw_region ?_
      refine awl_runp 1 [6] [] (ob := (True ∧ True)) (st' := (⟨90, [(6, [], .v (.c (.p .bool false)))], []⟩ : St)) (by kernel_rfl) ⟨trivial, trivial⟩ ?_
      refine awl_nil ?_
      refine thenQ_n ?_
      refine aw_ret ?_
      refine thenQ_r ?_
      exact retQ_r (σ := Bool) (R := (fun y => [toV1 .bool y])) (ob := (True ∧ True)) false (by kernel_rfl) ⟨trivial, trivial⟩ h
    · have h := h.2 hb
      refine aw_skip ?_
      refine thenQ_n ?_
      refine aw_seq ?_
      refine aw_seq ?_
      refine aw_region ?_
      refine awl_runp 2 [1, 2, 3, 7, 10, 11, 54] [3] (ob := (True ∧ True ∧ True)) (st' := (⟨90, [(1, [], .v (.c (.p (.sl (.int .i64)) u))), (2, [], .v (.c (.p (.sl (.int .i64)) v))), (3, [], .v (.c (.ptr 3 0))), (7, [], .v (.c (.p (.int .i64) ret20v.1))), (10, [], .v (.c (.p (.int .i64) ret37v.1))), (11, [], .v (.c (.p .bool ret37v.2.1))), (54, [], .v (.c (.p .bool (!decide (ret37v.2.2 = (0 : Int))))))], [(3, [], .box [.p (.int .i64) m.1, .p (.int .i64) m.2.1, .p (.sl (.sl (.int .i64))) m.2.2.1, .p (.int .i64) m.2.2.2.1, .p (.int .u32) m.2.2.2.2])]⟩ : St)) (by kernel_rfl) ⟨trivial, trivial, trivial⟩ ?_
      refine awl_nil ?_
      refine thenQ_n ?_
      refine aw_cond (b := (!decide (ret37v.2.2 = (0 : Int)))) (by kernel_rfl) (fun hb => ?_) (fun hb => ?_)
      · have h := h.1 hb
        refine aw_seq ?_
        refine aw_region ?_
        obtain ⟨o1, h⟩ := h
        refine awl_runp 10 [61, 63, 64] [] (ob := (True ∧ True ∧ True ∧ True ∧ InR ((u.length : Int) + (v.length : Int)) ∧ True ∧ True ∧ ((decide ((12 : Int) < ((u.length : Int) + (v.length : Int)))) = false → True) ∧ ((decide ((12 : Int) < ((u.length : Int) + (v.length : Int)))) = false → True) ∧ ((decide ((12 : Int) < ((u.length : Int) + (v.length : Int)))) = false → True) ∧ True)) (st' := (⟨90, [(61, [], .v (.c (.p .bool (decide ((12 : Int) < ((u.length : Int) + (v.length : Int))))))), (63, [(61, false)], .v (.c (.p (.int .i64) m.2.1))), (64, [(61, false)], .v (.c (.p (.sl (.int .i64)) v)))], []⟩ : St)) (by kernel_rfl) ⟨trivial, trivial, trivial, trivial, o1, trivial, trivial, (fun _ => trivial), (fun _ => trivial), (fun _ => trivial), trivial⟩ ?_
        refine awl_callk (p := [(61, false)]) (l := [toV1 (.int .i64) m.2.1, toV1 (.sl (.int .i64)) v]) (cl := []) false [.d (.int .i64), .d (.sl (.int .i64))] [61, 65] [] (fun (ret65v : Int) => K ((decide ((12 : Int) < ((u.length : Int) + (v.length : Int)))) || (!decide (ret65v = (0 : Int))))) (fun ret65v => [toV1 (.int .i64) ret65v]) (fun ret65v => (⟨90, [(61, [], .v (.c (.p .bool (decide ((12 : Int) < ((u.length : Int) + (v.length : Int))))))), (65, [(61, false)], .v (.c (.p (.int .i64) ret65v)))], []⟩ : St)) (by kernel_rfl) rfl (by kernel_rfl) rfl (by kernel_rfl) Try.call17 (by kernel_rfl) (fun ret65v => by kernel_rfl) (fun e => by cases e) (fun hg => link17 m.2.1 v _ (by have := gcall_T h (show (!(decide ((12 : Int) < ((u.length : Int) + (v.length : Int))))) = true from hg); exact this)) (fun hg => ⟨(0 : Int), by have := gcall_F h (show (!(decide ((12 : Int) < ((u.length : Int) + (v.length : Int))))) = false from hg); exact this⟩) (fun ret65v h => ?_)
        have h : K ((decide ((12 : Int) < ((u.length : Int) + (v.length : Int)))) || (!decide (ret65v = (0 : Int)))) := h
        refine awl_runp 3 [6] [] (ob := (((decide ((12 : Int) < ((u.length : Int) + (v.length : Int)))) = false → True) ∧ True ∧ True ∧ True)) (st' := (⟨90, [(6, [], .v (.c (.p .bool ((decide ((12 : Int) < ((u.length : Int) + (v.length : Int)))) || (!decide (ret65v = (0 : Int)))))))], []⟩ : St)) (by kernel_rfl) ⟨(fun _ => trivial), trivial, trivial, trivial⟩ ?_
        refine awl_nil ?_
        refine thenQ_n ?_
        refine aw_ret ?_
        refine thenQ_r ?_
        exact retQ_r (σ := Bool) (R := (fun y => [toV1 .bool y])) (ob := (True ∧ True)) ((decide ((12 : Int) < ((u.length : Int) + (v.length : Int)))) || (!decide (ret65v = (0 : Int)))) (by kernel_rfl) ⟨trivial, trivial⟩ h
      · have h := h.2 hb
        refine aw_skip ?_
        refine thenQ_n ?_
        refine aw_seq ?_
        refine aw_region ?_
        refine awl_runp 3 [2, 7, 10, 11, 13] [13] (ob := (True ∧ True ∧ True ∧ True)) (st' := (⟨90, [(2, [], .v (.c (.p (.sl (.int .i64)) v))), (7, [], .v (.c (.p (.int .i64) ret20v.1))), (10, [], .v (.c (.p (.int .i64) ret37v.1))), (11, [], .v (.c (.p .bool ret37v.2.1))), (13, [], .v (.c (.ptr 13 0)))], [(13, [], .box [.p (.int .i64) m.1, .p (.int .i64) m.2.1, .p (.sl (.sl (.int .i64))) m.2.2.1, .p (.int .i64) m.2.2.2.1, .p (.int .u32) m.2.2.2.2])]⟩ : St)) (by kernel_rfl) ⟨trivial, trivial, trivial, trivial⟩ ?_
        refine awl_nil ?_
        refine thenQ_n ?_
        refine aw_seq ?_
        refine aw_region ?_
        refine awl_runp 3 [2, 10, 11, 13] [13] (ob := (True ∧ True ∧ True ∧ True)) (st' := (⟨90, [(2, [], .v (.c (.p (.sl (.int .i64)) v))), (10, [], .v (.c (.p (.int .i64) ret37v.1))), (11, [], .v (.c (.p .bool ret37v.2.1))), (13, [], .v (.c (.ptr 13 0)))], [(13, [], .box [.p (.int .i64) m.1, .p (.int .i64) m.2.1, .p (.sl (.sl (.int .i64))) m.2.2.1, .p (.int .i64) ret20v.1, .p (.int .u32) m.2.2.2.2])]⟩ : St)) (by kernel_rfl) ⟨trivial, trivial, trivial, trivial⟩ ?_
        refine awl_nil ?_
        refine thenQ_n ?_
        refine aw_seq ?_
        refine aw_region ?_
        refine awl_runp 2 [10, 11, 72, 73] [] (ob := (True ∧ True ∧ True)) (st' := (⟨90, [(10, [], .v (.c (.p (.int .i64) ret37v.1))), (11, [], .v (.c (.p .bool ret37v.2.1))), (72, [], .v (.agg [.p (.int .i64) m.1, .p (.int .i64) m.2.1, .p (.sl (.sl (.int .i64))) m.2.2.1, .p (.int .i64) ret20v.1, .p (.int .u32) m.2.2.2.2])), (73, [], .v (.c (.p (.sl (.int .i64)) v)))], []⟩ : St)) (by kernel_rfl) ⟨trivial, trivial, trivial⟩ ?_
        refine awl_callk (p := []) (l := [toV1 (.pr (.int .i64) (.pr (.int .i64) (.pr (.sl (.sl (.int .i64))) (.pr (.int .i64) (.int .u32))))) (m.1, (m.2.1, (m.2.2.1, (ret20v.1, m.2.2.2.2)))), toV1 (.sl (.int .i64)) v]) (cl := []) false [.d (.pr (.int .i64) (.pr (.int .i64) (.pr (.sl (.sl (.int .i64))) (.pr (.int .i64) (.int .u32))))), .d (.sl (.int .i64))] [10, 11, 74] [] (fun (ret74v : Int × Bool × Int) => K (((decide (ret74v.2.2 = (0 : Int))) && (decide (ret37v.1 = ret74v.1))) && (ret37v.2.1 == ret74v.2.1))) (fun ret74v => [toV1 (.int .i64) ret74v.1, toV1 .bool ret74v.2.1, toV1 (.int .i64) ret74v.2.2]) (fun ret74v => (⟨90, [(10, [], .v (.c (.p (.int .i64) ret37v.1))), (11, [], .v (.c (.p .bool ret37v.2.1))), (74, [], .tup [.c (.p (.int .i64) ret74v.1), .c (.p .bool ret74v.2.1), .c (.p (.int .i64) ret74v.2.2)])], []⟩ : St)) (by kernel_rfl) rfl (by kernel_rfl) rfl (by kernel_rfl) Try.call15 (by kernel_rfl) (fun ret74v => by kernel_rfl) (fun e => by cases e) (fun hg => link15 (m.1, (m.2.1, (m.2.2.1, (ret20v.1, m.2.2.2.2)))) v _ h) (fun hg => noF hg) (fun ret74v h => ?_)
        have h : K (((decide (ret74v.2.2 = (0 : Int))) && (decide (ret37v.1 = ret74v.1))) && (ret37v.2.1 == ret74v.2.1)) := h
        refine awl_runp 7 [10, 11, 14, 15, 16] [] (ob := (True ∧ True ∧ True ∧ True ∧ True ∧ True ∧ True ∧ True)) (st' := (⟨90, [(10, [], .v (.c (.p (.int .i64) ret37v.1))), (11, [], .v (.c (.p .bool ret37v.2.1))), (14, [], .v (.c (.p (.int .i64) ret74v.1))), (15, [], .v (.c (.p .bool ret74v.2.1))), (16, [], .v (.c (.p (.int .i64) ret74v.2.2)))], []⟩ : St)) (by kernel_rfl) ⟨trivial, trivial, trivial, trivial, trivial, trivial, trivial, trivial⟩ ?_
        refine awl_nil ?_
        refine thenQ_n ?_
        refine aw_seq ?_
        refine aw_region ?_
        refine awl_runp 13 [6] [] (ob := (True ∧ True ∧ True ∧ ((decide (ret74v.2.2 = (0 : Int))) = true → True) ∧ ((decide (ret74v.2.2 = (0 : Int))) = true → True) ∧ ((decide (ret74v.2.2 = (0 : Int))) = true → True) ∧ True ∧ True ∧ (((decide (ret74v.2.2 = (0 : Int))) && (decide (ret37v.1 = ret74v.1))) = true → True) ∧ (((decide (ret74v.2.2 = (0 : Int))) && (decide (ret37v.1 = ret74v.1))) = true → True) ∧ (((decide (ret74v.2.2 = (0 : Int))) && (decide (ret37v.1 = ret74v.1))) = true → True) ∧ True ∧ True ∧ True)) (st' := (⟨90, [(6, [], .v (.c (.p .bool (((decide (ret74v.2.2 = (0 : Int))) && (decide (ret37v.1 = ret74v.1))) && (ret37v.2.1 == ret74v.2.1)))))], []⟩ : St)) (by kernel_rfl) ⟨trivial, trivial, trivial, (fun _ => trivial), (fun _ => trivial), (fun _ => trivial), trivial, trivial, (fun _ => trivial), (fun _ => trivial), (fun _ => trivial), trivial, trivial, trivial⟩ ?_
        refine awl_nil ?_
        refine thenQ_n ?_
        refine aw_ret ?_
        exact retQ_r (σ := Bool) (R := (fun y => [toV1 .bool y])) (ob := (True ∧ True)) (((decide (ret74v.2.2 = (0 : Int))) && (decide (ret37v.1 = ret74v.1))) && (ret37v.2.1 == ret74v.2.1)) (by kernel_rfl) ⟨trivial, trivial⟩ h

-- slices.Clone[[]int,int]
def VC43 (sv : (List Int)) (K : (List Int) → Prop) : Prop :=
  (∀ nil4 : Bool, (nil4 = true → sv = []) → ((nil4 = true → K ([] : List Int)) ∧ (nil4 = false → (roomN (([] : List Int).length + sv.length) ∧ K (([] : List Int) ++ sv)))))

set_option maxHeartbeats 4000000 in
theorem link43 (sv : (List Int)) (K : (List Int) → Prop) (h : VC43 sv K) : ACallsO Try.prog 43 [toV1 (.sl (.int .i64)) sv] 3 (.int .i64) K := by
  refine acallsO_of_aw 2 Try.func43 rfl rfl rfl ?_
  unfold VC43 at h
  refine aw_seq ?_
  refine aw_region ?_
  refine awl_runp 1 [0] [] (ob := (True ∧ True)) (st' := (⟨8, [(0, [], .v (.c (.p (.sl (.int .i64)) sv)))], []⟩ : St)) (by kernel_rfl) ⟨trivial, trivial⟩ ?_
  refine awl_nil ?_
  refine thenQ_n ?_
  refine aw_seq ?_
  refine aw_seq ?_
  refine aw_region ?_
  refine awl_runp 1 [0, 3] [] (ob := (True ∧ True)) (st' := (⟨8, [(0, [], .v (.c (.p (.sl (.int .i64)) sv))), (3, [], .v (.c (.p (.sl (.int .i64)) sv)))], []⟩ : St)) (by kernel_rfl) ⟨trivial, trivial⟩ ?_
  refine awl_nil_eql [0, 4] [] (fun nil4 => (⟨8, [(0, [], .v (.c (.p (.sl (.int .i64)) sv))), (4, [], .v (.c (.p .bool nil4)))], []⟩ : St)) rfl rfl (by kernel_rfl) rfl (e := 3) (by kernel_rfl) (l := sv) (u := (.int .i64)) (by kernel_rfl) (fun nil4 => by kernel_rfl) (fun nil4 hnil => ?_)
  have h := h nil4 hnil
  refine awl_nil ?_
  refine thenQ_n ?_
  refine aw_cond (b := nil4) (by kernel_rfl) (fun hb => ?_) (fun hb => ?_)
  · have h := h.1 hb
    refine aw_seq ?_
    refine aw_region ?_
    refine awl_runp 1 [2] [] (ob := (True ∧ True)) (st' := (⟨8, [(2, [], .v (.c (.nils)))], []⟩ : St)) (by kernel_rfl) ⟨trivial, trivial⟩ ?_
    refine awl_nil ?_
    refine thenQ_n ?_
    refine aw_conv [.nilOwn 2 5002 3 (.int .i64)] (st' := (⟨8, [(2, [], .v (.c (.own 5002)))], [(5002, [], .arr 3 (.int .i64) ([] : List Int))]⟩ : St)) (by kernel_rfl) ?_
    refine aw_ret ?_
    refine thenQ_r ?_
    exact ⟨5002, _, by kernel_rfl, by kernel_rfl, h⟩
  · have h := h.2 hb
    refine aw_skip ?_
    refine thenQ_n ?_
    refine aw_seq ?_
    refine aw_region ?_
    obtain ⟨o1, h⟩ := h
    refine awl_runp 4 [2] [7] (ob := (True ∧ True ∧ roomN (([] : List Int).length + sv.length) ∧ True ∧ True)) (st' := (⟨8, [(2, [], .v (.c (.own 7)))], [(7, [], .arr 3 (.int .i64) (([] : List Int) ++ sv))]⟩ : St)) (by kernel_rfl) ⟨trivial, trivial, o1, trivial, trivial⟩ ?_
    refine awl_nil ?_
    refine thenQ_n ?_
    refine aw_ret ?_
    exact ⟨7, _, by kernel_rfl, by kernel_rfl, h⟩

end Dec
