/-
  Printed by dec2.py: of each function its plain demand, and that the demand gives the contract.
-/
import Derived.Test.YtfigkkmiallghaaProg
import Derived.Test.YtfigkkmiallghaaDecY
set_option linter.unusedVariables false
set_option linter.unusedSimpArgs false
set_option maxRecDepth 100000
namespace Dec
open Go Go.RowKit Go.Proofs

-- coppicer/machine.within
def VC61 (n : Int) (low : Int) (high : Int) (K : Bool → Prop) : Prop :=
  K ((decide (low ≤ n)) && (decide (n ≤ high)))

set_option maxHeartbeats 4000000 in
theorem link61 (n : Int) (low : Int) (high : Int) (K : Bool → Prop) (h : VC61 n low high K) : ACalls Try.prog 61 [toV1 (.int .i64) n, toV1 (.int .i64) low, toV1 (.int .i64) high] (fun res => ∃ y, res = (fun y => [toV1 .bool y]) y ∧ K y) := by
  refine acalls_of_aw [.bool] [.t 6] Try.func61 rfl rfl rfl ?_
  unfold VC61 at h
  refine aw_seq ?_
  refine aw_region ?_
  refine awl_runp 1 [0, 1, 2] [] (ob := (True ∧ True)) (st' := (⟨15, [(0, [], .v (.c (.p (.int .i64) n))), (1, [], .v (.c (.p (.int .i64) low))), (2, [], .v (.c (.p (.int .i64) high)))], []⟩ : St)) (by kernel_rfl) ⟨trivial, trivial⟩ ?_
  refine awl_nil ?_
  refine thenQ_n ?_
  refine aw_seq ?_
  refine aw_region ?_
  refine awl_runp 9 [6] [] (ob := (True ∧ True ∧ True ∧ True ∧ ((decide (low ≤ n)) = true → True) ∧ ((decide (low ≤ n)) = true → True) ∧ ((decide (low ≤ n)) = true → True) ∧ True ∧ True ∧ True)) (st' := (⟨15, [(6, [], .v (.c (.p .bool ((decide (low ≤ n)) && (decide (n ≤ high))))))], []⟩ : St)) (by kernel_rfl) ⟨trivial, trivial, trivial, trivial, (fun _ => trivial), (fun _ => trivial), (fun _ => trivial), trivial, trivial, trivial⟩ ?_
  refine awl_nil ?_
  refine thenQ_n ?_
  refine aw_ret ?_
  exact retQ_r (σ := Bool) (R := (fun y => [toV1 .bool y])) (ob := (True ∧ True)) ((decide (low ≤ n)) && (decide (n ≤ high))) (by kernel_rfl) ⟨trivial, trivial⟩ h

-- coppicer/machine.Check$1
def VC63 (l : (List Int)) (a1 : (Int × (Int × ((List (List Int)) × (Int × Int))))) (K : Bool → Prop) : Prop :=
  K (!decide ((l.length : Int) = a1.2.1))

set_option maxHeartbeats 4000000 in
theorem link63 (l : (List Int)) (a1 : (Int × (Int × ((List (List Int)) × (Int × Int))))) (K : Bool → Prop) (h : VC63 l a1 K) : ACalls Try.prog 63 [toV1 (.sl (.int .i64)) l, .c (.ad (.pr (.int .i64) (.pr (.int .i64) (.pr (.sl (.sl (.int .i64))) (.pr (.int .i64) (.int .u32))))) a1)] (fun res => ∃ y, res = (fun y => [toV1 .bool y]) y ∧ K y) := by
  refine acalls_of_aw [.bool] [.t 3] Try.func63 rfl rfl rfl ?_
  unfold VC63 at h
  refine aw_seq ?_
  refine aw_region ?_
  refine awl_runp 1 [0, 1] [] (ob := (True ∧ True)) (st' := (⟨9, [(0, [], .v (.c (.p (.sl (.int .i64)) l))), (1, [], .v (.c (.ad (.pr (.int .i64) (.pr (.int .i64) (.pr (.sl (.sl (.int .i64))) (.pr (.int .i64) (.int .u32))))) a1)))], []⟩ : St)) (by kernel_rfl) ⟨trivial, trivial⟩ ?_
  refine awl_nil ?_
  refine thenQ_n ?_
  refine aw_seq ?_
  refine aw_region ?_
  refine awl_runp 6 [3] [] (ob := (True ∧ True ∧ True ∧ True ∧ True ∧ True ∧ True)) (st' := (⟨9, [(3, [], .v (.c (.p .bool (!decide ((l.length : Int) = a1.2.1)))))], []⟩ : St)) (by kernel_rfl) ⟨trivial, trivial, trivial, trivial, trivial, trivial, trivial⟩ ?_
  refine awl_nil ?_
  refine thenQ_n ?_
  refine aw_ret ?_
  exact retQ_r (σ := Bool) (R := (fun y => [toV1 .bool y])) (ob := (True ∧ True)) (!decide ((l.length : Int) = a1.2.1)) (by kernel_rfl) ⟨trivial, trivial⟩ h

-- slices.IndexFunc[[][]int,[]int]
def VC72_k1 (K : Int → Prop) : Prop :=
  K (-1 : Int)

def VC72_l1 (sv : (List (List Int))) (F1 : (List Int) → (Bool → Prop) → Prop) (K : Int → Prop) (v8 : Int) (X1 : Int → Prop) : Prop :=
  (((decide (v8 < (sv.length : Int))) = true → (inIdx v8 sv.length ∧ F1 (sv.getD (v8).toNat ([] : (List Int))) (fun (ret16v : Bool) => ((ret16v = true → K v8) ∧ (ret16v = false → (InR (v8 + (1 : Int)) ∧ X1 (v8 + (1 : Int)))))))) ∧ ((decide (v8 < (sv.length : Int))) = false → VC72_k1 K))

def VC72 (sv : (List (List Int))) (F1 : (List Int) → (Bool → Prop) → Prop) (K : Int → Prop) : Prop :=
  Loop (σ := Int) (fun s X => VC72_l1 sv F1 K s X) (0 : Int)

set_option maxHeartbeats 4000000 in
theorem link72 (sv : (List (List Int))) (fv1 : FuncId) (cv1 : List Dat) (F1 : (List Int) → (Bool → Prop) → Prop) (hF1 : FnIs Try.prog fv1 cv1 (fun (x : (List Int)) => [toV1 (.sl (.int .i64)) x]) (fun (y : Bool) => [toV1 .bool y]) F1) (K : Int → Prop) (h : VC72 sv F1 K) : ACalls Try.prog 72 [toV1 (.sl (.sl (.int .i64))) sv, .c (.fn fv1 cv1)] (fun res => ∃ y, res = (fun y => [toV1 (.int .i64) y]) y ∧ K y) := by
  refine acalls_of_aw [(.int .i64)] [.t 4] Try.func72 rfl rfl rfl ?_
  unfold VC72 at h
  refine aw_seq ?_
  refine aw_region ?_
  refine awl_runp 1 [0, 1] [] (ob := (True ∧ True)) (st' := (⟨19, [(0, [], .v (.c (.p (.sl (.sl (.int .i64))) sv))), (1, [], .v (.c (.fn fv1 cv1)))], []⟩ : St)) (by kernel_rfl) ⟨trivial, trivial⟩ ?_
  refine awl_nil ?_
  refine thenQ_n ?_
  refine aw_seq ?_
  refine aw_seq ?_
  refine aw_region ?_
  refine awl_runp 3 [0, 1, 7, 8] [] (ob := (True ∧ True ∧ True ∧ True)) (st' := (⟨19, [(0, [], .v (.c (.p (.sl (.sl (.int .i64))) sv))), (1, [], .v (.c (.fn fv1 cv1))), (7, [], .v (.c (.p (.int .i64) (sv.length : Int)))), (8, [], .v (.c (.p (.int .i64) (0 : Int))))], []⟩ : St)) (by kernel_rfl) ⟨trivial, trivial, trivial, trivial⟩ ?_
  refine awl_nil ?_
  refine thenQ_n ?_
  refine withJoin (σ := Unit) (fun s => (⟨19, [], []⟩ : St)) (fun s => VC72_k1 K) (fun s h => ?_) (fun rest1 => ?_)
  · have h : VC72_k1 K := h
    unfold VC72_k1 at h
    refine thenQ_n ?_
    refine aw_seq ?_
    refine aw_region ?_
    refine awl_runp 1 [4] [] (ob := (True ∧ True)) (st' := (⟨19, [(4, [], .v (.c (.p (.int .i64) (-1 : Int))))], []⟩ : St)) (by kernel_rfl) ⟨trivial, trivial⟩ ?_
    refine awl_nil ?_
    refine thenQ_n ?_
    refine aw_ret ?_
    exact retQ_r (σ := Int) (R := (fun y => [toV1 (.int .i64) y])) (ob := (True ∧ True)) (-1 : Int) (by kernel_rfl) ⟨trivial, trivial⟩ h
  · refine aw_block ?_
    refine aw_loop (σ := Int) (fun s => (⟨19, [(0, [], .v (.c (.p (.sl (.sl (.int .i64))) sv))), (1, [], .v (.c (.fn fv1 cv1))), (7, [], .v (.c (.p (.int .i64) (sv.length : Int)))), (8, [], .v (.c (.p (.int .i64) s)))], []⟩ : St)) (fun s X => VC72_l1 sv F1 K s X) (s0 := (0 : Int)) (fun v8 X1 h => ?_) h
    have h : VC72_l1 sv F1 K v8 X1 := h
    unfold VC72_l1 at h
    refine aw_seq ?_
    refine aw_region ?_
    refine awl_runp 1 [0, 1, 7, 8, 9] [] (ob := (True ∧ True)) (st' := (⟨19, [(0, [], .v (.c (.p (.sl (.sl (.int .i64))) sv))), (1, [], .v (.c (.fn fv1 cv1))), (7, [], .v (.c (.p (.int .i64) (sv.length : Int)))), (8, [], .v (.c (.p (.int .i64) v8))), (9, [], .v (.c (.p .bool (decide (v8 < (sv.length : Int))))))], []⟩ : St)) (by kernel_rfl) ⟨trivial, trivial⟩ ?_
    refine awl_nil ?_
    refine thenQ_n ?_
    refine aw_seq ?_
    refine aw_cond (b := (decide (v8 < (sv.length : Int)))) (by kernel_rfl) (fun hb => ?_) (fun hb => ?_)
    · have h := h.1 hb
      refine aw_skip ?_
      refine thenQ_n ?_
      refine aw_seq ?_
      refine aw_block ?_
      refine aw_seq ?_
      refine aw_region ?_
      refine awl_runp 2 [0, 1, 5, 7, 8] [] (ob := (True ∧ True ∧ True)) (st' := (⟨19, [(0, [], .v (.c (.p (.sl (.sl (.int .i64))) sv))), (1, [], .v (.c (.fn fv1 cv1))), (5, [], .v (.c (.p (.int .i64) v8))), (7, [], .v (.c (.p (.int .i64) (sv.length : Int)))), (8, [], .v (.c (.p (.int .i64) v8)))], []⟩ : St)) (by kernel_rfl) ⟨trivial, trivial, trivial⟩ ?_
      refine awl_nil ?_
      refine thenQ_n ?_
      refine aw_seq ?_
      refine aw_region ?_
      obtain ⟨o1, h⟩ := h
      refine awl_runp 5 [0, 1, 5, 7, 8, 11, 15] [] (ob := (True ∧ True ∧ True ∧ inIdx v8 sv.length ∧ True ∧ True)) (st' := (⟨19, [(0, [], .v (.c (.p (.sl (.sl (.int .i64))) sv))), (1, [], .v (.c (.fn fv1 cv1))), (5, [], .v (.c (.p (.int .i64) v8))), (7, [], .v (.c (.p (.int .i64) (sv.length : Int)))), (8, [], .v (.c (.p (.int .i64) v8))), (11, [], .v (.c (.fn fv1 cv1))), (15, [], .v (.c (.p (.sl (.int .i64)) (sv.getD (v8).toNat ([] : (List Int))))))], []⟩ : St)) (by kernel_rfl) ⟨trivial, trivial, trivial, o1, trivial, trivial⟩ ?_
      refine awl_callk (p := []) (l := [toV1 (.sl (.int .i64)) (sv.getD (v8).toNat ([] : (List Int)))]) false [.d (.sl (.int .i64))] [0, 1, 5, 7, 8, 16] [] (fun (ret16v : Bool) => ((ret16v = true → K v8) ∧ (ret16v = false → (InR (v8 + (1 : Int)) ∧ X1 (v8 + (1 : Int)))))) (fun ret16v => [toV1 .bool ret16v]) (fun ret16v => (⟨19, [(0, [], .v (.c (.p (.sl (.sl (.int .i64))) sv))), (1, [], .v (.c (.fn fv1 cv1))), (5, [], .v (.c (.p (.int .i64) v8))), (7, [], .v (.c (.p (.int .i64) (sv.length : Int)))), (8, [], .v (.c (.p (.int .i64) v8))), (16, [], .v (.c (.p .bool ret16v)))], []⟩ : St)) (by kernel_rfl) rfl (by kernel_rfl) rfl (by kernel_rfl) hF1.1 (by kernel_rfl) (fun ret16v => by kernel_rfl) (fun e => by cases e) (fun hg => hF1.2 (sv.getD (v8).toNat ([] : (List Int))) _ h) (fun hg => noF hg) (fun ret16v h => ?_)
      have h : ((ret16v = true → K v8) ∧ (ret16v = false → (InR (v8 + (1 : Int)) ∧ X1 (v8 + (1 : Int))))) := h
      refine awl_nil ?_
      refine thenQ_n ?_
      refine aw_cond (b := ret16v) (by kernel_rfl) (fun hb => ?_) (fun hb => ?_)
      · have h := h.1 hb
        refine aw_seq ?_
        refine aw_region ?_
        refine awl_runp 2 [4] [] (ob := (True ∧ True ∧ True)) (st' := (⟨19, [(4, [], .v (.c (.p (.int .i64) v8)))], []⟩ : St)) (by kernel_rfl) ⟨trivial, trivial, trivial⟩ ?_
        refine awl_nil ?_
        refine thenQ_n ?_
        refine aw_ret ?_
        refine blockQ_r ?_
        refine thenQ_r ?_
        refine thenQ_r ?_
        refine blockQ_r ?_
        refine thenQ_r ?_
        exact retQ_r (σ := Int) (R := (fun y => [toV1 (.int .i64) y])) (ob := (True ∧ True)) v8 (by kernel_rfl) ⟨trivial, trivial⟩ h
      · have h := h.2 hb
        refine aw_skip ?_
        refine blockQ_n ?_
        refine thenQ_n ?_
        refine aw_region ?_
        obtain ⟨o1, h⟩ := h
        refine awl_runp 2 [0, 1, 7, 8] [] (ob := (InR (v8 + (1 : Int)) ∧ True ∧ True)) (st' := (⟨19, [(0, [], .v (.c (.p (.sl (.sl (.int .i64))) sv))), (1, [], .v (.c (.fn fv1 cv1))), (7, [], .v (.c (.p (.int .i64) (sv.length : Int)))), (8, [], .v (.c (.p (.int .i64) (v8 + (1 : Int)))))], []⟩ : St)) (by kernel_rfl) ⟨o1, trivial, trivial⟩ ?_
        refine awl_nil ?_
        exact thenQ_n ⟨(v8 + (1 : Int)), rfl, h⟩
    · have h := h.2 hb
      refine aw_conv [.prune [] []] (st' := (⟨19, [], []⟩ : St)) (by kernel_rfl) ?_
      refine aw_exit ?_
      refine thenQ_x ?_
      refine thenQ_x ?_
      refine blockQ_hit ?_
      exact rest1 () h

-- slices.ContainsFunc[[][]int,[]int]
def VC62 (sv : (List (List Int))) (F1 : (List Int) → (Bool → Prop) → Prop) (K : Bool → Prop) : Prop :=
  VC72 sv F1 (fun (ret7v : Int) => K (decide ((0 : Int) ≤ ret7v)))

set_option maxHeartbeats 4000000 in
theorem link62 (sv : (List (List Int))) (fv1 : FuncId) (cv1 : List Dat) (F1 : (List Int) → (Bool → Prop) → Prop) (hF1 : FnIs Try.prog fv1 cv1 (fun (x : (List Int)) => [toV1 (.sl (.int .i64)) x]) (fun (y : Bool) => [toV1 .bool y]) F1) (K : Bool → Prop) (h : VC62 sv F1 K) : ACalls Try.prog 62 [toV1 (.sl (.sl (.int .i64))) sv, .c (.fn fv1 cv1)] (fun res => ∃ y, res = (fun y => [toV1 .bool y]) y ∧ K y) := by
  refine acalls_of_aw [.bool] [.t 4] Try.func62 rfl rfl rfl ?_
  unfold VC62 at h
  refine aw_seq ?_
  refine aw_region ?_
  refine awl_runp 1 [0, 1] [] (ob := (True ∧ True)) (st' := (⟨9, [(0, [], .v (.c (.p (.sl (.sl (.int .i64))) sv))), (1, [], .v (.c (.fn fv1 cv1)))], []⟩ : St)) (by kernel_rfl) ⟨trivial, trivial⟩ ?_
  refine awl_nil ?_
  refine thenQ_n ?_
  refine aw_seq ?_
  refine aw_region ?_
  refine awl_runp 2 [5, 6] [] (ob := (True ∧ True ∧ True)) (st' := (⟨9, [(5, [], .v (.c (.p (.sl (.sl (.int .i64))) sv))), (6, [], .v (.c (.fn fv1 cv1)))], []⟩ : St)) (by kernel_rfl) ⟨trivial, trivial, trivial⟩ ?_
  refine awl_callk (p := []) (l := [toV1 (.sl (.sl (.int .i64))) sv, .c (.fn fv1 cv1)]) (cl := []) false [.d (.sl (.sl (.int .i64))), .fn] [7] [] (fun (ret7v : Int) => K (decide ((0 : Int) ≤ ret7v))) (fun ret7v => [toV1 (.int .i64) ret7v]) (fun ret7v => (⟨9, [(7, [], .v (.c (.p (.int .i64) ret7v)))], []⟩ : St)) (by kernel_rfl) rfl (by kernel_rfl) rfl (by kernel_rfl) Try.call72 (by kernel_rfl) (fun ret7v => by kernel_rfl) (fun e => by cases e) (fun hg => link72 sv fv1 cv1 F1 hF1 _ h) (fun hg => noF hg) (fun ret7v h => ?_)
  have h : K (decide ((0 : Int) ≤ ret7v)) := h
  refine awl_runp 2 [4] [] (ob := (True ∧ True ∧ True)) (st' := (⟨9, [(4, [], .v (.c (.p .bool (decide ((0 : Int) ≤ ret7v)))))], []⟩ : St)) (by kernel_rfl) ⟨trivial, trivial, trivial⟩ ?_
  refine awl_nil ?_
  refine thenQ_n ?_
  refine aw_ret ?_
  exact retQ_r (σ := Bool) (R := (fun y => [toV1 .bool y])) (ob := (True ∧ True)) (decide ((0 : Int) ≤ ret7v)) (by kernel_rfl) ⟨trivial, trivial⟩ h

-- coppicer/machine.Check$2
def VC64 (n : Int) (a1 : (Int × (Int × ((List (List Int)) × (Int × Int))))) (K : Bool → Prop) : Prop :=
  (InR (a1.1 - (1 : Int)) ∧ VC61 n (0 : Int) (a1.1 - (1 : Int)) (fun (ret8v : Bool) => K ret8v))

set_option maxHeartbeats 4000000 in
theorem link64 (n : Int) (a1 : (Int × (Int × ((List (List Int)) × (Int × Int))))) (K : Bool → Prop) (h : VC64 n a1 K) : ACalls Try.prog 64 [toV1 (.int .i64) n, .c (.ad (.pr (.int .i64) (.pr (.int .i64) (.pr (.sl (.sl (.int .i64))) (.pr (.int .i64) (.int .u32))))) a1)] (fun res => ∃ y, res = (fun y => [toV1 .bool y]) y ∧ K y) := by
  refine acalls_of_aw [.bool] [.t 3] Try.func64 rfl rfl rfl ?_
  unfold VC64 at h
  refine aw_seq ?_
  refine aw_region ?_
  refine awl_runp 1 [0, 1] [] (ob := (True ∧ True)) (st' := (⟨9, [(0, [], .v (.c (.p (.int .i64) n))), (1, [], .v (.c (.ad (.pr (.int .i64) (.pr (.int .i64) (.pr (.sl (.sl (.int .i64))) (.pr (.int .i64) (.int .u32))))) a1)))], []⟩ : St)) (by kernel_rfl) ⟨trivial, trivial⟩ ?_
  refine awl_nil ?_
  refine thenQ_n ?_
  refine aw_seq ?_
  refine aw_region ?_
  obtain ⟨o1, h⟩ := h
  refine awl_runp 4 [4, 7] [] (ob := (True ∧ True ∧ True ∧ InR (a1.1 - (1 : Int)) ∧ True)) (st' := (⟨9, [(4, [], .v (.c (.p (.int .i64) n))), (7, [], .v (.c (.p (.int .i64) (a1.1 - (1 : Int)))))], []⟩ : St)) (by kernel_rfl) ⟨trivial, trivial, trivial, o1, trivial⟩ ?_
  refine awl_callk (p := []) (l := [toV1 (.int .i64) n, toV1 (.int .i64) (0 : Int), toV1 (.int .i64) (a1.1 - (1 : Int))]) (cl := []) false [.d (.int .i64), .d (.int .i64), .d (.int .i64)] [8] [] (fun (ret8v : Bool) => K ret8v) (fun ret8v => [toV1 .bool ret8v]) (fun ret8v => (⟨9, [(8, [], .v (.c (.p .bool ret8v)))], []⟩ : St)) (by kernel_rfl) rfl (by kernel_rfl) rfl (by kernel_rfl) Try.call61 (by kernel_rfl) (fun ret8v => by kernel_rfl) (fun e => by cases e) (fun hg => link61 n (0 : Int) (a1.1 - (1 : Int)) _ h) (fun hg => noF hg) (fun ret8v h => ?_)
  have h : K ret8v := h
  refine awl_runp 1 [3] [] (ob := (True ∧ True)) (st' := (⟨9, [(3, [], .v (.c (.p .bool ret8v)))], []⟩ : St)) (by kernel_rfl) ⟨trivial, trivial⟩ ?_
  refine awl_nil ?_
  refine thenQ_n ?_
  refine aw_ret ?_
  exact retQ_r (σ := Bool) (R := (fun y => [toV1 .bool y])) (ob := (True ∧ True)) ret8v (by kernel_rfl) ⟨trivial, trivial⟩ h

-- coppicer/machine.Check
def VC40_k1 (m : (Int × (Int × ((List (List Int)) × (Int × Int))))) (K : Int → Prop) : Prop :=
  VC64 m.2.2.2.1 m (fun (ret53v : Bool) => (((!ret53v) = true → K (2 : Int)) ∧ ((!ret53v) = false → ((0 ≤ m.2.2.2.2 ∧ 0 ≤ m.1) ∧ (((!decide ((bShr .u32 m.2.2.2.2 m.1) = (0 : Int))) = true → K (4 : Int)) ∧ ((!decide ((bShr .u32 m.2.2.2.2 m.1) = (0 : Int))) = false → K (0 : Int)))))))

def VC40_k2 (v34 : Int) (X1 : Int → Prop) : Prop :=
  (InR (v34 + (1 : Int)) ∧ X1 (v34 + (1 : Int)))

def VC40_l2 (m : (Int × (Int × ((List (List Int)) × (Int × Int))))) (K : Int → Prop) (v34 : Int) (X1 : Int → Prop) (v40 : Int) (X2 : Int → Prop) : Prop :=
  (((decide (v40 < ((m.2.2.1.getD (v34).toNat ([] : (List Int))).length : Int))) = true → (inIdx v40 (m.2.2.1.getD (v34).toNat ([] : (List Int))).length ∧ VC64 ((m.2.2.1.getD (v34).toNat ([] : (List Int))).getD (v40).toNat (0 : Int)) m (fun (ret46v : Bool) => (((!ret46v) = true → K (2 : Int)) ∧ ((!ret46v) = false → (InR (v40 + (1 : Int)) ∧ X2 (v40 + (1 : Int)))))))) ∧ ((decide (v40 < ((m.2.2.1.getD (v34).toNat ([] : (List Int))).length : Int))) = false → VC40_k2 v34 X1))

def VC40_l1 (m : (Int × (Int × ((List (List Int)) × (Int × Int))))) (K : Int → Prop) (v34 : Int) (X1 : Int → Prop) : Prop :=
  (((decide (v34 < (m.2.2.1.length : Int))) = true → (inIdx v34 m.2.2.1.length ∧ Loop (σ := Int) (fun s X => VC40_l2 m K v34 X1 s X) (0 : Int))) ∧ ((decide (v34 < (m.2.2.1.length : Int))) = false → VC40_k1 m K))

def VC40 (m : (Int × (Int × ((List (List Int)) × (Int × Int))))) (K : Int → Prop) : Prop :=
  VC61 m.1 (1 : Int) (7 : Int) (fun (ret10v : Bool) => gcall (α := Bool) (!(!ret10v)) (VC61 m.2.1 (1 : Int) (3 : Int)) false (fun (ret15v : Bool) => ((((!ret10v) || (!ret15v)) = true → K (1 : Int)) ∧ (((!ret10v) || (!ret15v)) = false → gcall (α := Bool) (!(!decide ((m.2.2.1.length : Int) = m.1))) (VC62 m.2.2.1 (fun (x : (List Int)) (K : Bool → Prop) => VC63 x m K)) false (fun (ret28v : Bool) => ((((!decide ((m.2.2.1.length : Int) = m.1)) || ret28v) = true → K (3 : Int)) ∧ (((!decide ((m.2.2.1.length : Int) = m.1)) || ret28v) = false → Loop (σ := Int) (fun s X => VC40_l1 m K s X) (0 : Int))))))))

set_option maxHeartbeats 4000000 in
theorem link40 (m : (Int × (Int × ((List (List Int)) × (Int × Int))))) (K : Int → Prop) (h : VC40 m K) : ACalls Try.prog 40 [toV1 (.pr (.int .i64) (.pr (.int .i64) (.pr (.sl (.sl (.int .i64))) (.pr (.int .i64) (.int .u32))))) m] (fun res => ∃ y, res = (fun y => [toV1 (.int .i64) y]) y ∧ K y) := by
  refine acalls_of_aw [(.int .i64)] [.t 2] Try.func40 rfl rfl rfl ?_
  unfold VC40 at h
  refine aw_seq ?_
  refine aw_region ?_
  refine awl_runp 2 [1] [1] (ob := (True ∧ True ∧ True)) (st' := (⟨61, [(1, [], .v (.c (.ptr 1 0)))], [(1, [], .box [.p (.int .i64) m.1, .p (.int .i64) m.2.1, .p (.sl (.sl (.int .i64))) m.2.2.1, .p (.int .i64) m.2.2.2.1, .p (.int .u32) m.2.2.2.2])]⟩ : St)) (by kernel_rfl) ⟨trivial, trivial, trivial⟩ ?_
  refine awl_nil ?_
  refine thenQ_n ?_
  refine aw_seq ?_
  refine aw_seq ?_
  refine aw_region ?_
  refine awl_runp 2 [1, 9] [1] (ob := (True ∧ True ∧ True)) (st' := (⟨61, [(1, [], .v (.c (.ptr 1 0))), (9, [], .v (.c (.p (.int .i64) m.1)))], [(1, [], .box [.p (.int .i64) m.1, .p (.int .i64) m.2.1, .p (.sl (.sl (.int .i64))) m.2.2.1, .p (.int .i64) m.2.2.2.1, .p (.int .u32) m.2.2.2.2])]⟩ : St)) (by kernel_rfl) ⟨trivial, trivial, trivial⟩ ?_
  refine awl_callk (p := []) (l := [toV1 (.int .i64) m.1, toV1 (.int .i64) (1 : Int), toV1 (.int .i64) (7 : Int)]) (cl := []) false [.d (.int .i64), .d (.int .i64), .d (.int .i64)] [1, 10] [1] (fun (ret10v : Bool) => gcall (α := Bool) (!(!ret10v)) (VC61 m.2.1 (1 : Int) (3 : Int)) false (fun (ret15v : Bool) => ((((!ret10v) || (!ret15v)) = true → K (1 : Int)) ∧ (((!ret10v) || (!ret15v)) = false → gcall (α := Bool) (!(!decide ((m.2.2.1.length : Int) = m.1))) (VC62 m.2.2.1 (fun (x : (List Int)) (K : Bool → Prop) => VC63 x m K)) false (fun (ret28v : Bool) => ((((!decide ((m.2.2.1.length : Int) = m.1)) || ret28v) = true → K (3 : Int)) ∧ (((!decide ((m.2.2.1.length : Int) = m.1)) || ret28v) = false → Loop (σ := Int) (fun s X => VC40_l1 m K s X) (0 : Int)))))))) (fun ret10v => [toV1 .bool ret10v]) (fun ret10v => (⟨61, [(1, [], .v (.c (.ptr 1 0))), (10, [], .v (.c (.p .bool ret10v)))], [(1, [], .box [.p (.int .i64) m.1, .p (.int .i64) m.2.1, .p (.sl (.sl (.int .i64))) m.2.2.1, .p (.int .i64) m.2.2.2.1, .p (.int .u32) m.2.2.2.2])]⟩ : St)) (by kernel_rfl) rfl (by kernel_rfl) rfl (by kernel_rfl) Try.call61 (by kernel_rfl) (fun ret10v => by kernel_rfl) (fun e => by cases e) (fun hg => link61 m.1 (1 : Int) (7 : Int) _ h) (fun hg => noF hg) (fun ret10v h => ?_)
  have h : gcall (α := Bool) (!(!ret10v)) (VC61 m.2.1 (1 : Int) (3 : Int)) false (fun (ret15v : Bool) => ((((!ret10v) || (!ret15v)) = true → K (1 : Int)) ∧ (((!ret10v) || (!ret15v)) = false → gcall (α := Bool) (!(!decide ((m.2.2.1.length : Int) = m.1))) (VC62 m.2.2.1 (fun (x : (List Int)) (K : Bool → Prop) => VC63 x m K)) false (fun (ret28v : Bool) => ((((!decide ((m.2.2.1.length : Int) = m.1)) || ret28v) = true → K (3 : Int)) ∧ (((!decide ((m.2.2.1.length : Int) = m.1)) || ret28v) = false → Loop (σ := Int) (fun s X => VC40_l1 m K s X) (0 : Int))))))) := h
  refine awl_runp 4 [1, 12, 14] [1] (ob := (True ∧ True ∧ ((!ret10v) = false → True) ∧ ((!ret10v) = false → True) ∧ True)) (st' := (⟨61, [(1, [], .v (.c (.ptr 1 0))), (12, [], .v (.c (.p .bool (!ret10v)))), (14, [(12, false)], .v (.c (.p (.int .i64) m.2.1)))], [(1, [], .box [.p (.int .i64) m.1, .p (.int .i64) m.2.1, .p (.sl (.sl (.int .i64))) m.2.2.1, .p (.int .i64) m.2.2.2.1, .p (.int .u32) m.2.2.2.2])]⟩ : St)) (by kernel_rfl) ⟨trivial, trivial, (fun _ => trivial), (fun _ => trivial), trivial⟩ ?_
  refine awl_callk (p := [(12, false)]) (l := [toV1 (.int .i64) m.2.1, toV1 (.int .i64) (1 : Int), toV1 (.int .i64) (3 : Int)]) (cl := []) false [.d (.int .i64), .d (.int .i64), .d (.int .i64)] [1, 12, 15] [1] (fun (ret15v : Bool) => ((((!ret10v) || (!ret15v)) = true → K (1 : Int)) ∧ (((!ret10v) || (!ret15v)) = false → gcall (α := Bool) (!(!decide ((m.2.2.1.length : Int) = m.1))) (VC62 m.2.2.1 (fun (x : (List Int)) (K : Bool → Prop) => VC63 x m K)) false (fun (ret28v : Bool) => ((((!decide ((m.2.2.1.length : Int) = m.1)) || ret28v) = true → K (3 : Int)) ∧ (((!decide ((m.2.2.1.length : Int) = m.1)) || ret28v) = false → Loop (σ := Int) (fun s X => VC40_l1 m K s X) (0 : Int))))))) (fun ret15v => [toV1 .bool ret15v]) (fun ret15v => (⟨61, [(1, [], .v (.c (.ptr 1 0))), (12, [], .v (.c (.p .bool (!ret10v)))), (15, [(12, false)], .v (.c (.p .bool ret15v)))], [(1, [], .box [.p (.int .i64) m.1, .p (.int .i64) m.2.1, .p (.sl (.sl (.int .i64))) m.2.2.1, .p (.int .i64) m.2.2.2.1, .p (.int .u32) m.2.2.2.2])]⟩ : St)) (by kernel_rfl) rfl (by kernel_rfl) rfl (by kernel_rfl) Try.call61 (by kernel_rfl) (fun ret15v => by kernel_rfl) (fun e => by cases e) (fun hg => link61 m.2.1 (1 : Int) (3 : Int) _ (by have := gcall_T h (show (!(!ret10v)) = true from hg); exact this)) (fun hg => ⟨false, by have := gcall_F h (show (!(!ret10v)) = false from hg); exact this⟩) (fun ret15v h => ?_)
  have h : ((((!ret10v) || (!ret15v)) = true → K (1 : Int)) ∧ (((!ret10v) || (!ret15v)) = false → gcall (α := Bool) (!(!decide ((m.2.2.1.length : Int) = m.1))) (VC62 m.2.2.1 (fun (x : (List Int)) (K : Bool → Prop) => VC63 x m K)) false (fun (ret28v : Bool) => ((((!decide ((m.2.2.1.length : Int) = m.1)) || ret28v) = true → K (3 : Int)) ∧ (((!decide ((m.2.2.1.length : Int) = m.1)) || ret28v) = false → Loop (σ := Int) (fun s X => VC40_l1 m K s X) (0 : Int)))))) := h
  refine awl_runp 2 [1, 17] [1] (ob := (((!ret10v) = false → True) ∧ True ∧ True)) (st' := (⟨61, [(1, [], .v (.c (.ptr 1 0))), (17, [], .v (.c (.p .bool ((!ret10v) || (!ret15v)))))], [(1, [], .box [.p (.int .i64) m.1, .p (.int .i64) m.2.1, .p (.sl (.sl (.int .i64))) m.2.2.1, .p (.int .i64) m.2.2.2.1, .p (.int .u32) m.2.2.2.2])]⟩ : St)) (by kernel_rfl) ⟨(fun _ => trivial), trivial, trivial⟩ ?_
  refine awl_nil ?_
  refine thenQ_n ?_
  refine aw_cond (b := ((!ret10v) || (!ret15v))) (by kernel_rfl) (fun hb => ?_) (fun hb => ?_)
  · have h := h.1 hb
    refine aw_seq ?_
    refine aw_region ?_
    refine awl_runp 1 [2] [] (ob := (True ∧ True)) (st' := (⟨61, [(2, [], .v (.c (.p (.int .i64) (1 : Int))))], []⟩ : St)) (by kernel_rfl) ⟨trivial, trivial⟩ ?_
    refine awl_nil ?_
    refine thenQ_n ?_
    refine aw_ret ?_
    refine thenQ_r ?_
    exact retQ_r (σ := Int) (R := (fun y => [toV1 (.int .i64) y])) (ob := (True ∧ True)) (1 : Int) (by kernel_rfl) ⟨trivial, trivial⟩ h
  · have h := h.2 hb
    refine aw_skip ?_
    refine thenQ_n ?_
    refine aw_seq ?_
    refine aw_seq ?_
    refine aw_region ?_
    refine awl_runp 9 [1, 24, 26] [1] (ob := (True ∧ True ∧ True ∧ True ∧ True ∧ True ∧ True ∧ ((!decide ((m.2.2.1.length : Int) = m.1)) = false → True) ∧ ((!decide ((m.2.2.1.length : Int) = m.1)) = false → True) ∧ True)) (st' := (⟨61, [(1, [], .v (.c (.ptr 1 0))), (24, [], .v (.c (.p .bool (!decide ((m.2.2.1.length : Int) = m.1))))), (26, [(24, false)], .v (.c (.p (.sl (.sl (.int .i64))) m.2.2.1)))], [(1, [], .box [.p (.int .i64) m.1, .p (.int .i64) m.2.1, .p (.sl (.sl (.int .i64))) m.2.2.1, .p (.int .i64) m.2.2.2.1, .p (.int .u32) m.2.2.2.2])]⟩ : St)) (by kernel_rfl) ⟨trivial, trivial, trivial, trivial, trivial, trivial, trivial, (fun _ => trivial), (fun _ => trivial), trivial⟩ ?_
    refine awl_conv [.freezeB 1 (.pr (.int .i64) (.pr (.int .i64) (.pr (.sl (.sl (.int .i64))) (.pr (.int .i64) (.int .u32)))))] (st' := (⟨61, [(1, [], .v (.c (.ad (.pr (.int .i64) (.pr (.int .i64) (.pr (.sl (.sl (.int .i64))) (.pr (.int .i64) (.int .u32))))) m))), (24, [], .v (.c (.p .bool (!decide ((m.2.2.1.length : Int) = m.1))))), (26, [(24, false)], .v (.c (.p (.sl (.sl (.int .i64))) m.2.2.1)))], []⟩ : St)) (by kernel_rfl) ?_
    refine awl_runp 1 [1, 24, 26, 27] [] (ob := (((!decide ((m.2.2.1.length : Int) = m.1)) = false → True) ∧ True)) (st' := (⟨61, [(1, [], .v (.c (.ad (.pr (.int .i64) (.pr (.int .i64) (.pr (.sl (.sl (.int .i64))) (.pr (.int .i64) (.int .u32))))) m))), (24, [], .v (.c (.p .bool (!decide ((m.2.2.1.length : Int) = m.1))))), (26, [(24, false)], .v (.c (.p (.sl (.sl (.int .i64))) m.2.2.1))), (27, [(24, false)], .v (.c (.fn 63 [(⟨(.pr (.int .i64) (.pr (.int .i64) (.pr (.sl (.sl (.int .i64))) (.pr (.int .i64) (.int .u32))))), m⟩ : Dat)])))], []⟩ : St)) (by kernel_rfl) ⟨(fun _ => trivial), trivial⟩ ?_
    refine awl_callk (p := [(24, false)]) (l := [toV1 (.sl (.sl (.int .i64))) m.2.2.1, .c (.fn 63 [(⟨(.pr (.int .i64) (.pr (.int .i64) (.pr (.sl (.sl (.int .i64))) (.pr (.int .i64) (.int .u32))))), m⟩ : Dat)])]) (cl := []) false [.d (.sl (.sl (.int .i64))), .fn] [1, 24, 28] [] (fun (ret28v : Bool) => ((((!decide ((m.2.2.1.length : Int) = m.1)) || ret28v) = true → K (3 : Int)) ∧ (((!decide ((m.2.2.1.length : Int) = m.1)) || ret28v) = false → Loop (σ := Int) (fun s X => VC40_l1 m K s X) (0 : Int)))) (fun ret28v => [toV1 .bool ret28v]) (fun ret28v => (⟨61, [(1, [], .v (.c (.ad (.pr (.int .i64) (.pr (.int .i64) (.pr (.sl (.sl (.int .i64))) (.pr (.int .i64) (.int .u32))))) m))), (24, [], .v (.c (.p .bool (!decide ((m.2.2.1.length : Int) = m.1))))), (28, [(24, false)], .v (.c (.p .bool ret28v)))], []⟩ : St)) (by kernel_rfl) rfl (by kernel_rfl) rfl (by kernel_rfl) Try.call62 (by kernel_rfl) (fun ret28v => by kernel_rfl) (fun e => by cases e) (fun hg => link62 m.2.2.1 63 [(⟨(.pr (.int .i64) (.pr (.int .i64) (.pr (.sl (.sl (.int .i64))) (.pr (.int .i64) (.int .u32))))), m⟩ : Dat)] (fun (x : (List Int)) (K : Bool → Prop) => VC63 x m K) ⟨Try.call63, fun x K h => link63 x m K h⟩ _ (by have := gcall_T h (show (!(!decide ((m.2.2.1.length : Int) = m.1))) = true from hg); exact this)) (fun hg => ⟨false, by have := gcall_F h (show (!(!decide ((m.2.2.1.length : Int) = m.1))) = false from hg); exact this⟩) (fun ret28v h => ?_)
    have h : ((((!decide ((m.2.2.1.length : Int) = m.1)) || ret28v) = true → K (3 : Int)) ∧ (((!decide ((m.2.2.1.length : Int) = m.1)) || ret28v) = false → Loop (σ := Int) (fun s X => VC40_l1 m K s X) (0 : Int))) := h
    refine awl_runp 1 [1, 29] [] (ob := (True ∧ True)) (st' := (⟨61, [(1, [], .v (.c (.ad (.pr (.int .i64) (.pr (.int .i64) (.pr (.sl (.sl (.int .i64))) (.pr (.int .i64) (.int .u32))))) m))), (29, [], .v (.c (.p .bool ((!decide ((m.2.2.1.length : Int) = m.1)) || ret28v))))], []⟩ : St)) (by kernel_rfl) ⟨trivial, trivial⟩ ?_
    refine awl_nil ?_
    refine thenQ_n ?_
    refine aw_cond (b := ((!decide ((m.2.2.1.length : Int) = m.1)) || ret28v)) (by kernel_rfl) (fun hb => ?_) (fun hb => ?_)
    · have h := h.1 hb
      refine aw_seq ?_
      refine aw_region ?_
      refine awl_runp 1 [2] [] (ob := (True ∧ True)) (st' := (⟨61, [(2, [], .v (.c (.p (.int .i64) (3 : Int))))], []⟩ : St)) (by kernel_rfl) ⟨trivial, trivial⟩ ?_
      refine awl_nil ?_
      refine thenQ_n ?_
      refine aw_ret ?_
      refine thenQ_r ?_
      exact retQ_r (σ := Int) (R := (fun y => [toV1 (.int .i64) y])) (ob := (True ∧ True)) (3 : Int) (by kernel_rfl) ⟨trivial, trivial⟩ h
    · have h := h.2 hb
      refine aw_skip ?_
      refine thenQ_n ?_
      refine aw_seq ?_
      refine aw_region ?_
      refine awl_runp 2 [1, 3] [] (ob := (True ∧ True ∧ True)) (st' := (⟨61, [(1, [], .v (.c (.ad (.pr (.int .i64) (.pr (.int .i64) (.pr (.sl (.sl (.int .i64))) (.pr (.int .i64) (.int .u32))))) m))), (3, [], .v (.c (.fn 64 [(⟨(.pr (.int .i64) (.pr (.int .i64) (.pr (.sl (.sl (.int .i64))) (.pr (.int .i64) (.int .u32))))), m⟩ : Dat)])))], []⟩ : St)) (by kernel_rfl) ⟨trivial, trivial, trivial⟩ ?_
      refine awl_nil ?_
      refine thenQ_n ?_
      refine aw_seq ?_
      refine aw_seq ?_
      refine aw_region ?_
      refine awl_runp 4 [1, 3, 32, 33, 34] [] (ob := (True ∧ True ∧ True ∧ True ∧ True)) (st' := (⟨61, [(1, [], .v (.c (.ad (.pr (.int .i64) (.pr (.int .i64) (.pr (.sl (.sl (.int .i64))) (.pr (.int .i64) (.int .u32))))) m))), (3, [], .v (.c (.fn 64 [(⟨(.pr (.int .i64) (.pr (.int .i64) (.pr (.sl (.sl (.int .i64))) (.pr (.int .i64) (.int .u32))))), m⟩ : Dat)]))), (32, [], .v (.c (.p (.sl (.sl (.int .i64))) m.2.2.1))), (33, [], .v (.c (.p (.int .i64) (m.2.2.1.length : Int)))), (34, [], .v (.c (.p (.int .i64) (0 : Int))))], []⟩ : St)) (by kernel_rfl) ⟨trivial, trivial, trivial, trivial, trivial⟩ ?_
      refine awl_nil ?_
      refine thenQ_n ?_
      refine withJoin (σ := Unit) (fun s => (⟨61, [(1, [], .v (.c (.ad (.pr (.int .i64) (.pr (.int .i64) (.pr (.sl (.sl (.int .i64))) (.pr (.int .i64) (.int .u32))))) m))), (3, [], .v (.c (.fn 64 [(⟨(.pr (.int .i64) (.pr (.int .i64) (.pr (.sl (.sl (.int .i64))) (.pr (.int .i64) (.int .u32))))), m⟩ : Dat)])))], []⟩ : St)) (fun s => VC40_k1 m K) (fun s h => ?_) (fun rest1 => ?_)
      · have h : VC40_k1 m K := h
        unfold VC40_k1 at h
        refine thenQ_n ?_
        refine aw_seq ?_
        refine aw_seq ?_
        refine aw_region ?_
        refine awl_runp 3 [1, 50, 52] [] (ob := (True ∧ True ∧ True ∧ True)) (st' := (⟨61, [(1, [], .v (.c (.ad (.pr (.int .i64) (.pr (.int .i64) (.pr (.sl (.sl (.int .i64))) (.pr (.int .i64) (.int .u32))))) m))), (50, [], .v (.c (.fn 64 [(⟨(.pr (.int .i64) (.pr (.int .i64) (.pr (.sl (.sl (.int .i64))) (.pr (.int .i64) (.int .u32))))), m⟩ : Dat)]))), (52, [], .v (.c (.p (.int .i64) m.2.2.2.1)))], []⟩ : St)) (by kernel_rfl) ⟨trivial, trivial, trivial, trivial⟩ ?_
        refine awl_callk (p := []) (l := [toV1 (.int .i64) m.2.2.2.1]) (cl := [.c (.ad (.pr (.int .i64) (.pr (.int .i64) (.pr (.sl (.sl (.int .i64))) (.pr (.int .i64) (.int .u32))))) m)]) false [.d (.int .i64)] [1, 53] [] (fun (ret53v : Bool) => (((!ret53v) = true → K (2 : Int)) ∧ ((!ret53v) = false → ((0 ≤ m.2.2.2.2 ∧ 0 ≤ m.1) ∧ (((!decide ((bShr .u32 m.2.2.2.2 m.1) = (0 : Int))) = true → K (4 : Int)) ∧ ((!decide ((bShr .u32 m.2.2.2.2 m.1) = (0 : Int))) = false → K (0 : Int))))))) (fun ret53v => [toV1 .bool ret53v]) (fun ret53v => (⟨61, [(1, [], .v (.c (.ad (.pr (.int .i64) (.pr (.int .i64) (.pr (.sl (.sl (.int .i64))) (.pr (.int .i64) (.int .u32))))) m))), (53, [], .v (.c (.p .bool ret53v)))], []⟩ : St)) (by kernel_rfl) rfl (by kernel_rfl) rfl (by kernel_rfl) Try.call64 (by kernel_rfl) (fun ret53v => by kernel_rfl) (fun e => by cases e) (fun hg => link64 m.2.2.2.1 m _ h) (fun hg => noF hg) (fun ret53v h => ?_)
        have h : (((!ret53v) = true → K (2 : Int)) ∧ ((!ret53v) = false → ((0 ≤ m.2.2.2.2 ∧ 0 ≤ m.1) ∧ (((!decide ((bShr .u32 m.2.2.2.2 m.1) = (0 : Int))) = true → K (4 : Int)) ∧ ((!decide ((bShr .u32 m.2.2.2.2 m.1) = (0 : Int))) = false → K (0 : Int)))))) := h
        refine awl_runp 1 [1, 54] [] (ob := (True ∧ True)) (st' := (⟨61, [(1, [], .v (.c (.ad (.pr (.int .i64) (.pr (.int .i64) (.pr (.sl (.sl (.int .i64))) (.pr (.int .i64) (.int .u32))))) m))), (54, [], .v (.c (.p .bool (!ret53v))))], []⟩ : St)) (by kernel_rfl) ⟨trivial, trivial⟩ ?_
        refine awl_nil ?_
        refine thenQ_n ?_
        refine aw_cond (b := (!ret53v)) (by kernel_rfl) (fun hb => ?_) (fun hb => ?_)
        · have h := h.1 hb
          refine aw_seq ?_
          refine aw_region ?_
          refine awl_runp 1 [2] [] (ob := (True ∧ True)) (st' := (⟨61, [(2, [], .v (.c (.p (.int .i64) (2 : Int))))], []⟩ : St)) (by kernel_rfl) ⟨trivial, trivial⟩ ?_
          refine awl_nil ?_
          refine thenQ_n ?_
          refine aw_ret ?_
          refine thenQ_r ?_
          exact retQ_r (σ := Int) (R := (fun y => [toV1 (.int .i64) y])) (ob := (True ∧ True)) (2 : Int) (by kernel_rfl) ⟨trivial, trivial⟩ h
        · have h := h.2 hb
          refine aw_skip ?_
          refine thenQ_n ?_
          refine aw_seq ?_
          refine aw_seq ?_
          refine aw_region ?_
          obtain ⟨o1, h⟩ := h
          refine awl_runp 6 [60] [] (ob := (True ∧ True ∧ True ∧ True ∧ (0 ≤ m.2.2.2.2 ∧ 0 ≤ m.1) ∧ True ∧ True)) (st' := (⟨61, [(60, [], .v (.c (.p .bool (!decide ((bShr .u32 m.2.2.2.2 m.1) = (0 : Int))))))], []⟩ : St)) (by kernel_rfl) ⟨trivial, trivial, trivial, trivial, o1, trivial, trivial⟩ ?_
          refine awl_nil ?_
          refine thenQ_n ?_
          refine aw_cond (b := (!decide ((bShr .u32 m.2.2.2.2 m.1) = (0 : Int)))) (by kernel_rfl) (fun hb => ?_) (fun hb => ?_)
          · have h := h.1 hb
            refine aw_seq ?_
            refine aw_region ?_
            refine awl_runp 1 [2] [] (ob := (True ∧ True)) (st' := (⟨61, [(2, [], .v (.c (.p (.int .i64) (4 : Int))))], []⟩ : St)) (by kernel_rfl) ⟨trivial, trivial⟩ ?_
            refine awl_nil ?_
            refine thenQ_n ?_
            refine aw_ret ?_
            refine thenQ_r ?_
            exact retQ_r (σ := Int) (R := (fun y => [toV1 (.int .i64) y])) (ob := (True ∧ True)) (4 : Int) (by kernel_rfl) ⟨trivial, trivial⟩ h
          · have h := h.2 hb
            refine aw_skip ?_
            refine thenQ_n ?_
            refine aw_seq ?_
            refine aw_region ?_
            refine awl_runp 1 [2] [] (ob := (True ∧ True)) (st' := (⟨61, [(2, [], .v (.c (.p (.int .i64) (0 : Int))))], []⟩ : St)) (by kernel_rfl) ⟨trivial, trivial⟩ ?_
            refine awl_nil ?_
            refine thenQ_n ?_
            refine aw_ret ?_
            exact retQ_r (σ := Int) (R := (fun y => [toV1 (.int .i64) y])) (ob := (True ∧ True)) (0 : Int) (by kernel_rfl) ⟨trivial, trivial⟩ h
      · refine aw_block ?_
        refine aw_loop (σ := Int) (fun s => (⟨61, [(1, [], .v (.c (.ad (.pr (.int .i64) (.pr (.int .i64) (.pr (.sl (.sl (.int .i64))) (.pr (.int .i64) (.int .u32))))) m))), (3, [], .v (.c (.fn 64 [(⟨(.pr (.int .i64) (.pr (.int .i64) (.pr (.sl (.sl (.int .i64))) (.pr (.int .i64) (.int .u32))))), m⟩ : Dat)]))), (32, [], .v (.c (.p (.sl (.sl (.int .i64))) m.2.2.1))), (33, [], .v (.c (.p (.int .i64) (m.2.2.1.length : Int)))), (34, [], .v (.c (.p (.int .i64) s)))], []⟩ : St)) (fun s X => VC40_l1 m K s X) (s0 := (0 : Int)) (fun v34 X1 h => ?_) h
        have h : VC40_l1 m K v34 X1 := h
        unfold VC40_l1 at h
        refine aw_seq ?_
        refine aw_region ?_
        refine awl_runp 1 [1, 3, 32, 33, 34, 35] [] (ob := (True ∧ True)) (st' := (⟨61, [(1, [], .v (.c (.ad (.pr (.int .i64) (.pr (.int .i64) (.pr (.sl (.sl (.int .i64))) (.pr (.int .i64) (.int .u32))))) m))), (3, [], .v (.c (.fn 64 [(⟨(.pr (.int .i64) (.pr (.int .i64) (.pr (.sl (.sl (.int .i64))) (.pr (.int .i64) (.int .u32))))), m⟩ : Dat)]))), (32, [], .v (.c (.p (.sl (.sl (.int .i64))) m.2.2.1))), (33, [], .v (.c (.p (.int .i64) (m.2.2.1.length : Int)))), (34, [], .v (.c (.p (.int .i64) v34))), (35, [], .v (.c (.p .bool (decide (v34 < (m.2.2.1.length : Int))))))], []⟩ : St)) (by kernel_rfl) ⟨trivial, trivial⟩ ?_
        refine awl_nil ?_
        refine thenQ_n ?_
        refine aw_seq ?_
        refine aw_cond (b := (decide (v34 < (m.2.2.1.length : Int)))) (by kernel_rfl) (fun hb => ?_) (fun hb => ?_)
        · have h := h.1 hb
          refine aw_skip ?_
          refine thenQ_n ?_
          refine aw_seq ?_
          refine aw_block ?_
          refine aw_seq ?_
          refine aw_region ?_
          obtain ⟨o1, h⟩ := h
          refine awl_runp 3 [1, 3, 5, 32, 33, 34] [] (ob := (inIdx v34 m.2.2.1.length ∧ True ∧ True ∧ True)) (st' := (⟨61, [(1, [], .v (.c (.ad (.pr (.int .i64) (.pr (.int .i64) (.pr (.sl (.sl (.int .i64))) (.pr (.int .i64) (.int .u32))))) m))), (3, [], .v (.c (.fn 64 [(⟨(.pr (.int .i64) (.pr (.int .i64) (.pr (.sl (.sl (.int .i64))) (.pr (.int .i64) (.int .u32))))), m⟩ : Dat)]))), (5, [], .v (.c (.p (.sl (.int .i64)) (m.2.2.1.getD (v34).toNat ([] : (List Int)))))), (32, [], .v (.c (.p (.sl (.sl (.int .i64))) m.2.2.1))), (33, [], .v (.c (.p (.int .i64) (m.2.2.1.length : Int)))), (34, [], .v (.c (.p (.int .i64) v34)))], []⟩ : St)) (by kernel_rfl) ⟨o1, trivial, trivial, trivial⟩ ?_
          refine awl_nil ?_
          refine thenQ_n ?_
          refine aw_seq ?_
          refine aw_region ?_
          refine awl_runp 3 [1, 3, 32, 33, 34, 38, 39, 40] [] (ob := (True ∧ True ∧ True ∧ True)) (st' := (⟨61, [(1, [], .v (.c (.ad (.pr (.int .i64) (.pr (.int .i64) (.pr (.sl (.sl (.int .i64))) (.pr (.int .i64) (.int .u32))))) m))), (3, [], .v (.c (.fn 64 [(⟨(.pr (.int .i64) (.pr (.int .i64) (.pr (.sl (.sl (.int .i64))) (.pr (.int .i64) (.int .u32))))), m⟩ : Dat)]))), (32, [], .v (.c (.p (.sl (.sl (.int .i64))) m.2.2.1))), (33, [], .v (.c (.p (.int .i64) (m.2.2.1.length : Int)))), (34, [], .v (.c (.p (.int .i64) v34))), (38, [], .v (.c (.p (.sl (.int .i64)) (m.2.2.1.getD (v34).toNat ([] : (List Int)))))), (39, [], .v (.c (.p (.int .i64) ((m.2.2.1.getD (v34).toNat ([] : (List Int))).length : Int)))), (40, [], .v (.c (.p (.int .i64) (0 : Int))))], []⟩ : St)) (by kernel_rfl) ⟨trivial, trivial, trivial, trivial⟩ ?_
          refine awl_nil ?_
          refine thenQ_n ?_
          refine withJoin (σ := Unit) (fun s => (⟨61, [(1, [], .v (.c (.ad (.pr (.int .i64) (.pr (.int .i64) (.pr (.sl (.sl (.int .i64))) (.pr (.int .i64) (.int .u32))))) m))), (3, [], .v (.c (.fn 64 [(⟨(.pr (.int .i64) (.pr (.int .i64) (.pr (.sl (.sl (.int .i64))) (.pr (.int .i64) (.int .u32))))), m⟩ : Dat)]))), (32, [], .v (.c (.p (.sl (.sl (.int .i64))) m.2.2.1))), (33, [], .v (.c (.p (.int .i64) (m.2.2.1.length : Int)))), (34, [], .v (.c (.p (.int .i64) v34)))], []⟩ : St)) (fun s => VC40_k2 v34 X1) (fun s h => ?_) (fun rest2 => ?_)
          · have h : VC40_k2 v34 X1 := h
            unfold VC40_k2 at h
            refine blockQ_n ?_
            refine thenQ_n ?_
            refine aw_region ?_
            obtain ⟨o1, h⟩ := h
            refine awl_runp 2 [1, 3, 32, 33, 34] [] (ob := (InR (v34 + (1 : Int)) ∧ True ∧ True)) (st' := (⟨61, [(1, [], .v (.c (.ad (.pr (.int .i64) (.pr (.int .i64) (.pr (.sl (.sl (.int .i64))) (.pr (.int .i64) (.int .u32))))) m))), (3, [], .v (.c (.fn 64 [(⟨(.pr (.int .i64) (.pr (.int .i64) (.pr (.sl (.sl (.int .i64))) (.pr (.int .i64) (.int .u32))))), m⟩ : Dat)]))), (32, [], .v (.c (.p (.sl (.sl (.int .i64))) m.2.2.1))), (33, [], .v (.c (.p (.int .i64) (m.2.2.1.length : Int)))), (34, [], .v (.c (.p (.int .i64) (v34 + (1 : Int)))))], []⟩ : St)) (by kernel_rfl) ⟨o1, trivial, trivial⟩ ?_
            refine awl_nil ?_
            exact thenQ_n ⟨(v34 + (1 : Int)), rfl, h⟩
          · refine aw_block ?_
            refine aw_loop (σ := Int) (fun s => (⟨61, [(1, [], .v (.c (.ad (.pr (.int .i64) (.pr (.int .i64) (.pr (.sl (.sl (.int .i64))) (.pr (.int .i64) (.int .u32))))) m))), (3, [], .v (.c (.fn 64 [(⟨(.pr (.int .i64) (.pr (.int .i64) (.pr (.sl (.sl (.int .i64))) (.pr (.int .i64) (.int .u32))))), m⟩ : Dat)]))), (32, [], .v (.c (.p (.sl (.sl (.int .i64))) m.2.2.1))), (33, [], .v (.c (.p (.int .i64) (m.2.2.1.length : Int)))), (34, [], .v (.c (.p (.int .i64) v34))), (38, [], .v (.c (.p (.sl (.int .i64)) (m.2.2.1.getD (v34).toNat ([] : (List Int)))))), (39, [], .v (.c (.p (.int .i64) ((m.2.2.1.getD (v34).toNat ([] : (List Int))).length : Int)))), (40, [], .v (.c (.p (.int .i64) s)))], []⟩ : St)) (fun s X => VC40_l2 m K v34 X1 s X) (s0 := (0 : Int)) (fun v40 X2 h => ?_) h
            have h : VC40_l2 m K v34 X1 v40 X2 := h
            unfold VC40_l2 at h
            refine aw_seq ?_
            refine aw_region ?_
            refine awl_runp 1 [1, 3, 32, 33, 34, 38, 39, 40, 41] [] (ob := (True ∧ True)) (st' := (⟨61, [(1, [], .v (.c (.ad (.pr (.int .i64) (.pr (.int .i64) (.pr (.sl (.sl (.int .i64))) (.pr (.int .i64) (.int .u32))))) m))), (3, [], .v (.c (.fn 64 [(⟨(.pr (.int .i64) (.pr (.int .i64) (.pr (.sl (.sl (.int .i64))) (.pr (.int .i64) (.int .u32))))), m⟩ : Dat)]))), (32, [], .v (.c (.p (.sl (.sl (.int .i64))) m.2.2.1))), (33, [], .v (.c (.p (.int .i64) (m.2.2.1.length : Int)))), (34, [], .v (.c (.p (.int .i64) v34))), (38, [], .v (.c (.p (.sl (.int .i64)) (m.2.2.1.getD (v34).toNat ([] : (List Int)))))), (39, [], .v (.c (.p (.int .i64) ((m.2.2.1.getD (v34).toNat ([] : (List Int))).length : Int)))), (40, [], .v (.c (.p (.int .i64) v40))), (41, [], .v (.c (.p .bool (decide (v40 < ((m.2.2.1.getD (v34).toNat ([] : (List Int))).length : Int))))))], []⟩ : St)) (by kernel_rfl) ⟨trivial, trivial⟩ ?_
            refine awl_nil ?_
            refine thenQ_n ?_
            refine aw_seq ?_
            refine aw_cond (b := (decide (v40 < ((m.2.2.1.getD (v34).toNat ([] : (List Int))).length : Int)))) (by kernel_rfl) (fun hb => ?_) (fun hb => ?_)
            · have h := h.1 hb
              refine aw_skip ?_
              refine thenQ_n ?_
              refine aw_seq ?_
              refine aw_block ?_
              refine aw_seq ?_
              refine aw_region ?_
              obtain ⟨o1, h⟩ := h
              refine awl_runp 3 [1, 3, 7, 32, 33, 34, 38, 39, 40] [] (ob := (inIdx v40 (m.2.2.1.getD (v34).toNat ([] : (List Int))).length ∧ True ∧ True ∧ True)) (st' := (⟨61, [(1, [], .v (.c (.ad (.pr (.int .i64) (.pr (.int .i64) (.pr (.sl (.sl (.int .i64))) (.pr (.int .i64) (.int .u32))))) m))), (3, [], .v (.c (.fn 64 [(⟨(.pr (.int .i64) (.pr (.int .i64) (.pr (.sl (.sl (.int .i64))) (.pr (.int .i64) (.int .u32))))), m⟩ : Dat)]))), (7, [], .v (.c (.p (.int .i64) ((m.2.2.1.getD (v34).toNat ([] : (List Int))).getD (v40).toNat (0 : Int))))), (32, [], .v (.c (.p (.sl (.sl (.int .i64))) m.2.2.1))), (33, [], .v (.c (.p (.int .i64) (m.2.2.1.length : Int)))), (34, [], .v (.c (.p (.int .i64) v34))), (38, [], .v (.c (.p (.sl (.int .i64)) (m.2.2.1.getD (v34).toNat ([] : (List Int)))))), (39, [], .v (.c (.p (.int .i64) ((m.2.2.1.getD (v34).toNat ([] : (List Int))).length : Int)))), (40, [], .v (.c (.p (.int .i64) v40)))], []⟩ : St)) (by kernel_rfl) ⟨o1, trivial, trivial, trivial⟩ ?_
              refine awl_nil ?_
              refine thenQ_n ?_
              refine aw_seq ?_
              refine aw_region ?_
              refine awl_runp 2 [1, 3, 32, 33, 34, 38, 39, 40, 44, 45] [] (ob := (True ∧ True ∧ True)) (st' := (⟨61, [(1, [], .v (.c (.ad (.pr (.int .i64) (.pr (.int .i64) (.pr (.sl (.sl (.int .i64))) (.pr (.int .i64) (.int .u32))))) m))), (3, [], .v (.c (.fn 64 [(⟨(.pr (.int .i64) (.pr (.int .i64) (.pr (.sl (.sl (.int .i64))) (.pr (.int .i64) (.int .u32))))), m⟩ : Dat)]))), (32, [], .v (.c (.p (.sl (.sl (.int .i64))) m.2.2.1))), (33, [], .v (.c (.p (.int .i64) (m.2.2.1.length : Int)))), (34, [], .v (.c (.p (.int .i64) v34))), (38, [], .v (.c (.p (.sl (.int .i64)) (m.2.2.1.getD (v34).toNat ([] : (List Int)))))), (39, [], .v (.c (.p (.int .i64) ((m.2.2.1.getD (v34).toNat ([] : (List Int))).length : Int)))), (40, [], .v (.c (.p (.int .i64) v40))), (44, [], .v (.c (.fn 64 [(⟨(.pr (.int .i64) (.pr (.int .i64) (.pr (.sl (.sl (.int .i64))) (.pr (.int .i64) (.int .u32))))), m⟩ : Dat)]))), (45, [], .v (.c (.p (.int .i64) ((m.2.2.1.getD (v34).toNat ([] : (List Int))).getD (v40).toNat (0 : Int)))))], []⟩ : St)) (by kernel_rfl) ⟨trivial, trivial, trivial⟩ ?_
              refine awl_callk (p := []) (l := [toV1 (.int .i64) ((m.2.2.1.getD (v34).toNat ([] : (List Int))).getD (v40).toNat (0 : Int))]) (cl := [.c (.ad (.pr (.int .i64) (.pr (.int .i64) (.pr (.sl (.sl (.int .i64))) (.pr (.int .i64) (.int .u32))))) m)]) false [.d (.int .i64)] [1, 3, 32, 33, 34, 38, 39, 40, 46] [] (fun (ret46v : Bool) => (((!ret46v) = true → K (2 : Int)) ∧ ((!ret46v) = false → (InR (v40 + (1 : Int)) ∧ X2 (v40 + (1 : Int)))))) (fun ret46v => [toV1 .bool ret46v]) (fun ret46v => (⟨61, [(1, [], .v (.c (.ad (.pr (.int .i64) (.pr (.int .i64) (.pr (.sl (.sl (.int .i64))) (.pr (.int .i64) (.int .u32))))) m))), (3, [], .v (.c (.fn 64 [(⟨(.pr (.int .i64) (.pr (.int .i64) (.pr (.sl (.sl (.int .i64))) (.pr (.int .i64) (.int .u32))))), m⟩ : Dat)]))), (32, [], .v (.c (.p (.sl (.sl (.int .i64))) m.2.2.1))), (33, [], .v (.c (.p (.int .i64) (m.2.2.1.length : Int)))), (34, [], .v (.c (.p (.int .i64) v34))), (38, [], .v (.c (.p (.sl (.int .i64)) (m.2.2.1.getD (v34).toNat ([] : (List Int)))))), (39, [], .v (.c (.p (.int .i64) ((m.2.2.1.getD (v34).toNat ([] : (List Int))).length : Int)))), (40, [], .v (.c (.p (.int .i64) v40))), (46, [], .v (.c (.p .bool ret46v)))], []⟩ : St)) (by kernel_rfl) rfl (by kernel_rfl) rfl (by kernel_rfl) Try.call64 (by kernel_rfl) (fun ret46v => by kernel_rfl) (fun e => by cases e) (fun hg => link64 ((m.2.2.1.getD (v34).toNat ([] : (List Int))).getD (v40).toNat (0 : Int)) m _ h) (fun hg => noF hg) (fun ret46v h => ?_)
              have h : (((!ret46v) = true → K (2 : Int)) ∧ ((!ret46v) = false → (InR (v40 + (1 : Int)) ∧ X2 (v40 + (1 : Int))))) := h
              refine awl_runp 1 [1, 3, 32, 33, 34, 38, 39, 40, 47] [] (ob := (True ∧ True)) (st' := (⟨61, [(1, [], .v (.c (.ad (.pr (.int .i64) (.pr (.int .i64) (.pr (.sl (.sl (.int .i64))) (.pr (.int .i64) (.int .u32))))) m))), (3, [], .v (.c (.fn 64 [(⟨(.pr (.int .i64) (.pr (.int .i64) (.pr (.sl (.sl (.int .i64))) (.pr (.int .i64) (.int .u32))))), m⟩ : Dat)]))), (32, [], .v (.c (.p (.sl (.sl (.int .i64))) m.2.2.1))), (33, [], .v (.c (.p (.int .i64) (m.2.2.1.length : Int)))), (34, [], .v (.c (.p (.int .i64) v34))), (38, [], .v (.c (.p (.sl (.int .i64)) (m.2.2.1.getD (v34).toNat ([] : (List Int)))))), (39, [], .v (.c (.p (.int .i64) ((m.2.2.1.getD (v34).toNat ([] : (List Int))).length : Int)))), (40, [], .v (.c (.p (.int .i64) v40))), (47, [], .v (.c (.p .bool (!ret46v))))], []⟩ : St)) (by kernel_rfl) ⟨trivial, trivial⟩ ?_
              refine awl_nil ?_
              refine thenQ_n ?_
              refine aw_cond (b := (!ret46v)) (by kernel_rfl) (fun hb => ?_) (fun hb => ?_)
              · have h := h.1 hb
                refine aw_seq ?_
                refine aw_region ?_
                refine awl_runp 1 [2] [] (ob := (True ∧ True)) (st' := (⟨61, [(2, [], .v (.c (.p (.int .i64) (2 : Int))))], []⟩ : St)) (by kernel_rfl) ⟨trivial, trivial⟩ ?_
                refine awl_nil ?_
                refine thenQ_n ?_
                refine aw_ret ?_
                refine blockQ_r ?_
                refine thenQ_r ?_
                refine thenQ_r ?_
                refine blockQ_r ?_
                refine blockQ_r ?_
                refine thenQ_r ?_
                refine thenQ_r ?_
                refine blockQ_r ?_
                refine thenQ_r ?_
                exact retQ_r (σ := Int) (R := (fun y => [toV1 (.int .i64) y])) (ob := (True ∧ True)) (2 : Int) (by kernel_rfl) ⟨trivial, trivial⟩ h
              · have h := h.2 hb
                refine aw_skip ?_
                refine blockQ_n ?_
                refine thenQ_n ?_
                refine aw_region ?_
                obtain ⟨o1, h⟩ := h
                refine awl_runp 2 [1, 3, 32, 33, 34, 38, 39, 40] [] (ob := (InR (v40 + (1 : Int)) ∧ True ∧ True)) (st' := (⟨61, [(1, [], .v (.c (.ad (.pr (.int .i64) (.pr (.int .i64) (.pr (.sl (.sl (.int .i64))) (.pr (.int .i64) (.int .u32))))) m))), (3, [], .v (.c (.fn 64 [(⟨(.pr (.int .i64) (.pr (.int .i64) (.pr (.sl (.sl (.int .i64))) (.pr (.int .i64) (.int .u32))))), m⟩ : Dat)]))), (32, [], .v (.c (.p (.sl (.sl (.int .i64))) m.2.2.1))), (33, [], .v (.c (.p (.int .i64) (m.2.2.1.length : Int)))), (34, [], .v (.c (.p (.int .i64) v34))), (38, [], .v (.c (.p (.sl (.int .i64)) (m.2.2.1.getD (v34).toNat ([] : (List Int)))))), (39, [], .v (.c (.p (.int .i64) ((m.2.2.1.getD (v34).toNat ([] : (List Int))).length : Int)))), (40, [], .v (.c (.p (.int .i64) (v40 + (1 : Int)))))], []⟩ : St)) (by kernel_rfl) ⟨o1, trivial, trivial⟩ ?_
                refine awl_nil ?_
                exact thenQ_n ⟨(v40 + (1 : Int)), rfl, h⟩
            · have h := h.2 hb
              refine aw_conv [.prune [1, 3, 32, 33, 34] []] (st' := (⟨61, [(1, [], .v (.c (.ad (.pr (.int .i64) (.pr (.int .i64) (.pr (.sl (.sl (.int .i64))) (.pr (.int .i64) (.int .u32))))) m))), (3, [], .v (.c (.fn 64 [(⟨(.pr (.int .i64) (.pr (.int .i64) (.pr (.sl (.sl (.int .i64))) (.pr (.int .i64) (.int .u32))))), m⟩ : Dat)]))), (32, [], .v (.c (.p (.sl (.sl (.int .i64))) m.2.2.1))), (33, [], .v (.c (.p (.int .i64) (m.2.2.1.length : Int)))), (34, [], .v (.c (.p (.int .i64) v34)))], []⟩ : St)) (by kernel_rfl) ?_
              refine aw_exit ?_
              refine thenQ_x ?_
              refine thenQ_x ?_
              refine blockQ_hit ?_
              exact rest2 () h
        · have h := h.2 hb
          refine aw_conv [.prune [1, 3] []] (st' := (⟨61, [(1, [], .v (.c (.ad (.pr (.int .i64) (.pr (.int .i64) (.pr (.sl (.sl (.int .i64))) (.pr (.int .i64) (.int .u32))))) m))), (3, [], .v (.c (.fn 64 [(⟨(.pr (.int .i64) (.pr (.int .i64) (.pr (.sl (.sl (.int .i64))) (.pr (.int .i64) (.int .u32))))), m⟩ : Dat)])))], []⟩ : St)) (by kernel_rfl) ?_
          refine aw_exit ?_
          refine thenQ_x ?_
          refine thenQ_x ?_
          refine blockQ_hit ?_
          exact rest1 () h

-- coppicer/machine.Has
def VC42 (setv : Int) (n : Int) (K : Bool → Prop) : Prop :=
  ((0 ≤ setv ∧ 0 ≤ n) ∧ K (decide ((bAnd .u32 (bShr .u32 setv n) (1 : Int)) = (1 : Int))))

set_option maxHeartbeats 4000000 in
theorem link42 (setv : Int) (n : Int) (K : Bool → Prop) (h : VC42 setv n K) : ACalls Try.prog 42 [toV1 (.int .u32) setv, toV1 (.int .i64) n] (fun res => ∃ y, res = (fun y => [toV1 .bool y]) y ∧ K y) := by
  refine acalls_of_aw [.bool] [.t 4] Try.func42 rfl rfl rfl ?_
  unfold VC42 at h
  refine aw_seq ?_
  refine aw_region ?_
  refine awl_runp 1 [0, 1] [] (ob := (True ∧ True)) (st' := (⟨10, [(0, [], .v (.c (.p (.int .u32) setv))), (1, [], .v (.c (.p (.int .i64) n)))], []⟩ : St)) (by kernel_rfl) ⟨trivial, trivial⟩ ?_
  refine awl_nil ?_
  refine thenQ_n ?_
  refine aw_seq ?_
  refine aw_region ?_
  obtain ⟨o1, h⟩ := h
  refine awl_runp 6 [4] [] (ob := (True ∧ True ∧ (0 ≤ setv ∧ 0 ≤ n) ∧ True ∧ True ∧ True ∧ True)) (st' := (⟨10, [(4, [], .v (.c (.p .bool (decide ((bAnd .u32 (bShr .u32 setv n) (1 : Int)) = (1 : Int))))))], []⟩ : St)) (by kernel_rfl) ⟨trivial, trivial, o1, trivial, trivial, trivial, trivial⟩ ?_
  refine awl_nil ?_
  refine thenQ_n ?_
  refine aw_ret ?_
  exact retQ_r (σ := Bool) (R := (fun y => [toV1 .bool y])) (ob := (True ∧ True)) (decide ((bAnd .u32 (bShr .u32 setv n) (1 : Int)) = (1 : Int))) (by kernel_rfl) ⟨trivial, trivial⟩ h

-- coppicer/least.apart
def VC67_k1 (K : (List ((Int × Int) × Int)) → Prop) (parted : (List ((Int × Int) × Int))) : Prop :=
  K parted

def VC67_k2 (X1 : Bool × (List ((Int × Int) × Int)) → Prop) (grown2 : Bool) (parted2 : (List ((Int × Int) × Int))) : Prop :=
  X1 (grown2, parted2)

def VC67_k3 (v17 : Int) (X2 : Bool × Int × (List ((Int × Int) × Int)) → Prop) (grown3 : Bool) (parted3 : (List ((Int × Int) × Int))) : Prop :=
  (InR (v17 + (1 : Int)) ∧ X2 (grown3, (v17 + (1 : Int)), parted3))

def VC67_k4 (v22 : Int) (X3 : Bool × Int × (List ((Int × Int) × Int)) → Prop) (grown4 : Bool) (parted4 : (List ((Int × Int) × Int))) : Prop :=
  (InR (v22 + (1 : Int)) ∧ X3 (grown4, (v22 + (1 : Int)), parted4))

def VC67_k6 (v22 : Int) (X3 : Bool × Int × (List ((Int × Int) × Int)) → Prop) (grown4 : Bool) (parted4 : (List ((Int × Int) × Int))) : Prop :=
  VC67_k4 v22 X3 grown4 parted4

def VC67_k5 (v17 : Int) (grown3 : Bool) (v22 : Int) (parted3 : (List ((Int × Int) × Int))) (X3 : Bool × Int × (List ((Int × Int) × Int)) → Prop) (is : Bool) : Prop :=
  ((is = true → VC67_k6 v22 X3 true (mset parted3 (v17, v22) (1 : Int))) ∧ (is = false → VC67_k6 v22 X3 grown3 parted3))

def VC67_l4 (m : (Int × (Int × ((List (List Int)) × (Int × Int))))) (v17 : Int) (grown3 : Bool) (v22 : Int) (parted3 : (List ((Int × Int) × Int))) (X3 : Bool × Int × (List ((Int × Int) × Int)) → Prop) (is : Bool) (v45 : Int) (X4 : Bool × Int → Prop) : Prop :=
  (((decide (v45 < m.2.1)) = true → (inIdx v17 m.2.2.1.length ∧ inIdx v45 (m.2.2.1.getD (v17).toNat ([] : (List Int))).length ∧ inIdx v22 m.2.2.1.length ∧ inIdx v45 (m.2.2.1.getD (v22).toNat ([] : (List Int))).length ∧ (InR (v45 + (1 : Int)) ∧ X4 ((is || (mget parted3 (((m.2.2.1.getD (v17).toNat ([] : (List Int))).getD (v45).toNat (0 : Int)), ((m.2.2.1.getD (v22).toNat ([] : (List Int))).getD (v45).toNat (0 : Int)))).isSome), (v45 + (1 : Int)))))) ∧ ((decide (v45 < m.2.1)) = false → VC67_k5 v17 grown3 v22 parted3 X3 is))

def VC67_l3 (m : (Int × (Int × ((List (List Int)) × (Int × Int))))) (v17 : Int) (X2 : Bool × Int × (List ((Int × Int) × Int)) → Prop) (grown3 : Bool) (v22 : Int) (parted3 : (List ((Int × Int) × Int))) (X3 : Bool × Int × (List ((Int × Int) × Int)) → Prop) : Prop :=
  (((decide (v22 < m.1)) = true → (((mget parted3 (v17, v22)).isSome = true → VC67_k4 v22 X3 grown3 parted3) ∧ ((mget parted3 (v17, v22)).isSome = false → VC42 m.2.2.2.2 v17 (fun (ret37v : Bool) => VC42 m.2.2.2.2 v22 (fun (ret41v : Bool) => Loop (σ := Bool × Int) (fun s X => VC67_l4 m v17 grown3 v22 parted3 X3 s.1 s.2 X) ((ret37v != ret41v), (0 : Int))))))) ∧ ((decide (v22 < m.1)) = false → VC67_k3 v17 X2 grown3 parted3))

def VC67_l2 (m : (Int × (Int × ((List (List Int)) × (Int × Int))))) (X1 : Bool × (List ((Int × Int) × Int)) → Prop) (grown2 : Bool) (v17 : Int) (parted2 : (List ((Int × Int) × Int))) (X2 : Bool × Int × (List ((Int × Int) × Int)) → Prop) : Prop :=
  (((decide (v17 < m.1)) = true → Loop (σ := Bool × Int × (List ((Int × Int) × Int))) (fun s X => VC67_l3 m v17 X2 s.1 s.2.1 s.2.2 X) (grown2, (0 : Int), parted2)) ∧ ((decide (v17 < m.1)) = false → VC67_k2 X1 grown2 parted2))

def VC67_l1 (m : (Int × (Int × ((List (List Int)) × (Int × Int))))) (K : (List ((Int × Int) × Int)) → Prop) (grown : Bool) (parted : (List ((Int × Int) × Int))) (X1 : Bool × (List ((Int × Int) × Int)) → Prop) : Prop :=
  ((grown = true → Loop (σ := Bool × Int × (List ((Int × Int) × Int))) (fun s X => VC67_l2 m X1 s.1 s.2.1 s.2.2 X) (false, (0 : Int), parted)) ∧ (grown = false → VC67_k1 K parted))

def VC67 (m : (Int × (Int × ((List (List Int)) × (Int × Int))))) (K : (List ((Int × Int) × Int)) → Prop) : Prop :=
  Loop (σ := Bool × (List ((Int × Int) × Int))) (fun s X => VC67_l1 m K s.1 s.2 X) (true, ([] : List ((Int × Int) × Int)))

set_option maxHeartbeats 4000000 in
theorem link67 (m : (Int × (Int × ((List (List Int)) × (Int × Int))))) (K : (List ((Int × Int) × Int)) → Prop) (h : VC67 m K) : ACalls Try.prog 67 [toV1 (.pr (.int .i64) (.pr (.int .i64) (.pr (.sl (.sl (.int .i64))) (.pr (.int .i64) (.int .u32))))) m] (fun res => ∃ y, res = (fun y => [toV1 (.mp (.pr (.int .i64) (.int .i64)) (.int .i64)) y]) y ∧ K y) := by
  refine acalls_of_aw [(.mp (.pr (.int .i64) (.int .i64)) (.int .i64))] [.t 2] Try.func67 rfl rfl rfl ?_
  unfold VC67 at h
  refine aw_seq ?_
  refine aw_region ?_
  refine awl_runp 2 [1] [1] (ob := (True ∧ True ∧ True)) (st' := (⟨83, [(1, [], .v (.c (.ptr 1 0)))], [(1, [], .box [.p (.int .i64) m.1, .p (.int .i64) m.2.1, .p (.sl (.sl (.int .i64))) m.2.2.1, .p (.int .i64) m.2.2.2.1, .p (.int .u32) m.2.2.2.2])]⟩ : St)) (by kernel_rfl) ⟨trivial, trivial, trivial⟩ ?_
  refine awl_nil ?_
  refine thenQ_n ?_
  refine aw_seq ?_
  refine aw_region ?_
  refine awl_runp 2 [1, 3] [1, 13] (ob := (True ∧ True ∧ True)) (st' := (⟨83, [(1, [], .v (.c (.ptr 1 0))), (3, [], .v (.c (.own 13)))], [(1, [], .box [.p (.int .i64) m.1, .p (.int .i64) m.2.1, .p (.sl (.sl (.int .i64))) m.2.2.1, .p (.int .i64) m.2.2.2.1, .p (.int .u32) m.2.2.2.2]), (13, [], .dict (.pr (.int .i64) (.int .i64)) (.int .i64) ([] : List ((Int × Int) × Int)))]⟩ : St)) (by kernel_rfl) ⟨trivial, trivial, trivial⟩ ?_
  refine awl_nil ?_
  refine thenQ_n ?_
  refine aw_seq ?_
  refine aw_seq ?_
  refine aw_region ?_
  refine awl_runp 1 [1, 3, 4] [1, 13] (ob := (True ∧ True)) (st' := (⟨83, [(1, [], .v (.c (.ptr 1 0))), (3, [], .v (.c (.own 13))), (4, [], .v (.c (.p .bool true)))], [(1, [], .box [.p (.int .i64) m.1, .p (.int .i64) m.2.1, .p (.sl (.sl (.int .i64))) m.2.2.1, .p (.int .i64) m.2.2.2.1, .p (.int .u32) m.2.2.2.2]), (13, [], .dict (.pr (.int .i64) (.int .i64)) (.int .i64) ([] : List ((Int × Int) × Int)))]⟩ : St)) (by kernel_rfl) ⟨trivial, trivial⟩ ?_
  refine awl_nil ?_
  refine thenQ_n ?_
  refine withJoin (σ := (List ((Int × Int) × Int))) (fun s => (⟨83, [(3, [], .v (.c (.own 13)))], [(13, [], .dict (.pr (.int .i64) (.int .i64)) (.int .i64) s)]⟩ : St)) (fun s => VC67_k1 K s) (fun parted h => ?_) (fun rest1 => ?_)
  · have h : VC67_k1 K parted := h
    unfold VC67_k1 at h
    refine thenQ_n ?_
    refine aw_seq ?_
    refine aw_region ?_
    refine awl_runp 2 [2] [13] (ob := (True ∧ True ∧ True)) (st' := (⟨83, [(2, [], .v (.c (.own 13)))], [(13, [], .dict (.pr (.int .i64) (.int .i64)) (.int .i64) parted)]⟩ : St)) (by kernel_rfl) ⟨trivial, trivial, trivial⟩ ?_
    refine awl_nil ?_
    refine thenQ_n ?_
    refine aw_conv [.freeze 13] (st' := (⟨83, [(2, [], .v (.c (.p (.mp (.pr (.int .i64) (.int .i64)) (.int .i64)) parted)))], []⟩ : St)) (by kernel_rfl) ?_
    refine aw_ret ?_
    exact retQ_r (σ := (List ((Int × Int) × Int))) (R := (fun y => [toV1 (.mp (.pr (.int .i64) (.int .i64)) (.int .i64)) y])) (ob := (True ∧ True)) parted (by kernel_rfl) ⟨trivial, trivial⟩ h
  · refine aw_block ?_
    refine aw_loop (σ := Bool × (List ((Int × Int) × Int))) (fun s => (⟨83, [(1, [], .v (.c (.ptr 1 0))), (3, [], .v (.c (.own 13))), (4, [], .v (.c (.p .bool s.1)))], [(1, [], .box [.p (.int .i64) m.1, .p (.int .i64) m.2.1, .p (.sl (.sl (.int .i64))) m.2.2.1, .p (.int .i64) m.2.2.2.1, .p (.int .u32) m.2.2.2.2]), (13, [], .dict (.pr (.int .i64) (.int .i64)) (.int .i64) s.2)]⟩ : St)) (fun s X => VC67_l1 m K s.1 s.2 X) (s0 := (true, ([] : List ((Int × Int) × Int)))) (fun s X1 h => ?_) h
    obtain ⟨grown, parted⟩ := s
    have h : VC67_l1 m K grown parted X1 := h
    unfold VC67_l1 at h
    refine aw_seq ?_
    refine aw_seq ?_
    refine aw_region ?_
    refine awl_runp 1 [1, 3, 14] [1, 13] (ob := (True ∧ True)) (st' := (⟨83, [(1, [], .v (.c (.ptr 1 0))), (3, [], .v (.c (.own 13))), (14, [], .v (.c (.p .bool grown)))], [(1, [], .box [.p (.int .i64) m.1, .p (.int .i64) m.2.1, .p (.sl (.sl (.int .i64))) m.2.2.1, .p (.int .i64) m.2.2.2.1, .p (.int .u32) m.2.2.2.2]), (13, [], .dict (.pr (.int .i64) (.int .i64)) (.int .i64) parted)]⟩ : St)) (by kernel_rfl) ⟨trivial, trivial⟩ ?_
    refine awl_nil ?_
    refine thenQ_n ?_
    refine aw_cond (b := grown) (by kernel_rfl) (fun hb => ?_) (fun hb => ?_)
    · have h := h.1 hb
      refine aw_skip ?_
      refine thenQ_n ?_
      refine aw_block ?_
      refine aw_seq ?_
      refine aw_region ?_
      refine awl_runp 1 [1, 3, 4] [1, 13] (ob := (True ∧ True)) (st' := (⟨83, [(1, [], .v (.c (.ptr 1 0))), (3, [], .v (.c (.own 13))), (4, [], .v (.c (.p .bool false)))], [(1, [], .box [.p (.int .i64) m.1, .p (.int .i64) m.2.1, .p (.sl (.sl (.int .i64))) m.2.2.1, .p (.int .i64) m.2.2.2.1, .p (.int .u32) m.2.2.2.2]), (13, [], .dict (.pr (.int .i64) (.int .i64)) (.int .i64) parted)]⟩ : St)) (by kernel_rfl) ⟨trivial, trivial⟩ ?_
      refine awl_nil ?_
      refine thenQ_n ?_
      refine aw_seq ?_
      refine aw_region ?_
      refine awl_runp 3 [1, 3, 4, 16, 17] [1, 13] (ob := (True ∧ True ∧ True ∧ True)) (st' := (⟨83, [(1, [], .v (.c (.ptr 1 0))), (3, [], .v (.c (.own 13))), (4, [], .v (.c (.p .bool false))), (16, [], .v (.c (.p (.int .i64) m.1))), (17, [], .v (.c (.p (.int .i64) (0 : Int))))], [(1, [], .box [.p (.int .i64) m.1, .p (.int .i64) m.2.1, .p (.sl (.sl (.int .i64))) m.2.2.1, .p (.int .i64) m.2.2.2.1, .p (.int .u32) m.2.2.2.2]), (13, [], .dict (.pr (.int .i64) (.int .i64)) (.int .i64) parted)]⟩ : St)) (by kernel_rfl) ⟨trivial, trivial, trivial, trivial⟩ ?_
      refine awl_nil ?_
      refine thenQ_n ?_
      refine withJoin (σ := Bool × (List ((Int × Int) × Int))) (fun s => (⟨83, [(1, [], .v (.c (.ptr 1 0))), (3, [], .v (.c (.own 13))), (4, [], .v (.c (.p .bool s.1)))], [(1, [], .box [.p (.int .i64) m.1, .p (.int .i64) m.2.1, .p (.sl (.sl (.int .i64))) m.2.2.1, .p (.int .i64) m.2.2.2.1, .p (.int .u32) m.2.2.2.2]), (13, [], .dict (.pr (.int .i64) (.int .i64)) (.int .i64) s.2)]⟩ : St)) (fun s => VC67_k2 X1 s.1 s.2) (fun s h => ?_) (fun rest2 => ?_)
      · obtain ⟨grown2, parted2⟩ := s
        have h : VC67_k2 X1 grown2 parted2 := h
        unfold VC67_k2 at h
        refine blockQ_n ?_
        exact thenQ_n ⟨(grown2, parted2), rfl, h⟩
      · refine aw_block ?_
        refine aw_loop (σ := Bool × Int × (List ((Int × Int) × Int))) (fun s => (⟨83, [(1, [], .v (.c (.ptr 1 0))), (3, [], .v (.c (.own 13))), (4, [], .v (.c (.p .bool s.1))), (16, [], .v (.c (.p (.int .i64) m.1))), (17, [], .v (.c (.p (.int .i64) s.2.1)))], [(1, [], .box [.p (.int .i64) m.1, .p (.int .i64) m.2.1, .p (.sl (.sl (.int .i64))) m.2.2.1, .p (.int .i64) m.2.2.2.1, .p (.int .u32) m.2.2.2.2]), (13, [], .dict (.pr (.int .i64) (.int .i64)) (.int .i64) s.2.2)]⟩ : St)) (fun s X => VC67_l2 m X1 s.1 s.2.1 s.2.2 X) (s0 := (false, (0 : Int), parted)) (fun s X2 h => ?_) h
        obtain ⟨grown2, v17, parted2⟩ := s
        have h : VC67_l2 m X1 grown2 v17 parted2 X2 := h
        unfold VC67_l2 at h
        refine aw_seq ?_
        refine aw_region ?_
        refine awl_runp 1 [1, 3, 4, 16, 17, 18] [1, 13] (ob := (True ∧ True)) (st' := (⟨83, [(1, [], .v (.c (.ptr 1 0))), (3, [], .v (.c (.own 13))), (4, [], .v (.c (.p .bool grown2))), (16, [], .v (.c (.p (.int .i64) m.1))), (17, [], .v (.c (.p (.int .i64) v17))), (18, [], .v (.c (.p .bool (decide (v17 < m.1)))))], [(1, [], .box [.p (.int .i64) m.1, .p (.int .i64) m.2.1, .p (.sl (.sl (.int .i64))) m.2.2.1, .p (.int .i64) m.2.2.2.1, .p (.int .u32) m.2.2.2.2]), (13, [], .dict (.pr (.int .i64) (.int .i64)) (.int .i64) parted2)]⟩ : St)) (by kernel_rfl) ⟨trivial, trivial⟩ ?_
        refine awl_nil ?_
        refine thenQ_n ?_
        refine aw_seq ?_
        refine aw_cond (b := (decide (v17 < m.1))) (by kernel_rfl) (fun hb => ?_) (fun hb => ?_)
        · have h := h.1 hb
          refine aw_skip ?_
          refine thenQ_n ?_
          refine aw_seq ?_
          refine aw_block ?_
          refine aw_seq ?_
          refine aw_region ?_
          refine awl_runp 2 [1, 3, 4, 5, 16, 17] [1, 13] (ob := (True ∧ True ∧ True)) (st' := (⟨83, [(1, [], .v (.c (.ptr 1 0))), (3, [], .v (.c (.own 13))), (4, [], .v (.c (.p .bool grown2))), (5, [], .v (.c (.p (.int .i64) v17))), (16, [], .v (.c (.p (.int .i64) m.1))), (17, [], .v (.c (.p (.int .i64) v17)))], [(1, [], .box [.p (.int .i64) m.1, .p (.int .i64) m.2.1, .p (.sl (.sl (.int .i64))) m.2.2.1, .p (.int .i64) m.2.2.2.1, .p (.int .u32) m.2.2.2.2]), (13, [], .dict (.pr (.int .i64) (.int .i64)) (.int .i64) parted2)]⟩ : St)) (by kernel_rfl) ⟨trivial, trivial, trivial⟩ ?_
          refine awl_nil ?_
          refine thenQ_n ?_
          refine aw_seq ?_
          refine aw_region ?_
          refine awl_runp 3 [1, 3, 4, 5, 16, 17, 21, 22] [1, 13] (ob := (True ∧ True ∧ True ∧ True)) (st' := (⟨83, [(1, [], .v (.c (.ptr 1 0))), (3, [], .v (.c (.own 13))), (4, [], .v (.c (.p .bool grown2))), (5, [], .v (.c (.p (.int .i64) v17))), (16, [], .v (.c (.p (.int .i64) m.1))), (17, [], .v (.c (.p (.int .i64) v17))), (21, [], .v (.c (.p (.int .i64) m.1))), (22, [], .v (.c (.p (.int .i64) (0 : Int))))], [(1, [], .box [.p (.int .i64) m.1, .p (.int .i64) m.2.1, .p (.sl (.sl (.int .i64))) m.2.2.1, .p (.int .i64) m.2.2.2.1, .p (.int .u32) m.2.2.2.2]), (13, [], .dict (.pr (.int .i64) (.int .i64)) (.int .i64) parted2)]⟩ : St)) (by kernel_rfl) ⟨trivial, trivial, trivial, trivial⟩ ?_
          refine awl_nil ?_
          refine thenQ_n ?_
          refine withJoin (σ := Bool × (List ((Int × Int) × Int))) (fun s => (⟨83, [(1, [], .v (.c (.ptr 1 0))), (3, [], .v (.c (.own 13))), (4, [], .v (.c (.p .bool s.1))), (16, [], .v (.c (.p (.int .i64) m.1))), (17, [], .v (.c (.p (.int .i64) v17)))], [(1, [], .box [.p (.int .i64) m.1, .p (.int .i64) m.2.1, .p (.sl (.sl (.int .i64))) m.2.2.1, .p (.int .i64) m.2.2.2.1, .p (.int .u32) m.2.2.2.2]), (13, [], .dict (.pr (.int .i64) (.int .i64)) (.int .i64) s.2)]⟩ : St)) (fun s => VC67_k3 v17 X2 s.1 s.2) (fun s h => ?_) (fun rest3 => ?_)
          · obtain ⟨grown3, parted3⟩ := s
            have h : VC67_k3 v17 X2 grown3 parted3 := h
            unfold VC67_k3 at h
            refine blockQ_n ?_
            refine thenQ_n ?_
            refine aw_region ?_
            obtain ⟨o1, h⟩ := h
            refine awl_runp 2 [1, 3, 4, 16, 17] [1, 13] (ob := (InR (v17 + (1 : Int)) ∧ True ∧ True)) (st' := (⟨83, [(1, [], .v (.c (.ptr 1 0))), (3, [], .v (.c (.own 13))), (4, [], .v (.c (.p .bool grown3))), (16, [], .v (.c (.p (.int .i64) m.1))), (17, [], .v (.c (.p (.int .i64) (v17 + (1 : Int)))))], [(1, [], .box [.p (.int .i64) m.1, .p (.int .i64) m.2.1, .p (.sl (.sl (.int .i64))) m.2.2.1, .p (.int .i64) m.2.2.2.1, .p (.int .u32) m.2.2.2.2]), (13, [], .dict (.pr (.int .i64) (.int .i64)) (.int .i64) parted3)]⟩ : St)) (by kernel_rfl) ⟨o1, trivial, trivial⟩ ?_
            refine awl_nil ?_
            exact thenQ_n ⟨(grown3, (v17 + (1 : Int)), parted3), rfl, h⟩
          · refine aw_block ?_
            refine aw_loop (σ := Bool × Int × (List ((Int × Int) × Int))) (fun s => (⟨83, [(1, [], .v (.c (.ptr 1 0))), (3, [], .v (.c (.own 13))), (4, [], .v (.c (.p .bool s.1))), (5, [], .v (.c (.p (.int .i64) v17))), (16, [], .v (.c (.p (.int .i64) m.1))), (17, [], .v (.c (.p (.int .i64) v17))), (21, [], .v (.c (.p (.int .i64) m.1))), (22, [], .v (.c (.p (.int .i64) s.2.1)))], [(1, [], .box [.p (.int .i64) m.1, .p (.int .i64) m.2.1, .p (.sl (.sl (.int .i64))) m.2.2.1, .p (.int .i64) m.2.2.2.1, .p (.int .u32) m.2.2.2.2]), (13, [], .dict (.pr (.int .i64) (.int .i64)) (.int .i64) s.2.2)]⟩ : St)) (fun s X => VC67_l3 m v17 X2 s.1 s.2.1 s.2.2 X) (s0 := (grown2, (0 : Int), parted2)) (fun s X3 h => ?_) h
            obtain ⟨grown3, v22, parted3⟩ := s
            have h : VC67_l3 m v17 X2 grown3 v22 parted3 X3 := h
            unfold VC67_l3 at h
            refine aw_seq ?_
            refine aw_region ?_
            refine awl_runp 1 [1, 3, 4, 5, 16, 17, 21, 22, 23] [1, 13] (ob := (True ∧ True)) (st' := (⟨83, [(1, [], .v (.c (.ptr 1 0))), (3, [], .v (.c (.own 13))), (4, [], .v (.c (.p .bool grown3))), (5, [], .v (.c (.p (.int .i64) v17))), (16, [], .v (.c (.p (.int .i64) m.1))), (17, [], .v (.c (.p (.int .i64) v17))), (21, [], .v (.c (.p (.int .i64) m.1))), (22, [], .v (.c (.p (.int .i64) v22))), (23, [], .v (.c (.p .bool (decide (v22 < m.1)))))], [(1, [], .box [.p (.int .i64) m.1, .p (.int .i64) m.2.1, .p (.sl (.sl (.int .i64))) m.2.2.1, .p (.int .i64) m.2.2.2.1, .p (.int .u32) m.2.2.2.2]), (13, [], .dict (.pr (.int .i64) (.int .i64)) (.int .i64) parted3)]⟩ : St)) (by kernel_rfl) ⟨trivial, trivial⟩ ?_
            refine awl_nil ?_
            refine thenQ_n ?_
            refine aw_seq ?_
            refine aw_cond (b := (decide (v22 < m.1))) (by kernel_rfl) (fun hb => ?_) (fun hb => ?_)
            · have h := h.1 hb
              refine aw_skip ?_
              refine thenQ_n ?_
              refine aw_seq ?_
              refine withJoin (σ := Bool × (List ((Int × Int) × Int))) (fun s => (⟨83, [(1, [], .v (.c (.ptr 1 0))), (3, [], .v (.c (.own 13))), (4, [], .v (.c (.p .bool s.1))), (5, [], .v (.c (.p (.int .i64) v17))), (16, [], .v (.c (.p (.int .i64) m.1))), (17, [], .v (.c (.p (.int .i64) v17))), (21, [], .v (.c (.p (.int .i64) m.1))), (22, [], .v (.c (.p (.int .i64) v22)))], [(1, [], .box [.p (.int .i64) m.1, .p (.int .i64) m.2.1, .p (.sl (.sl (.int .i64))) m.2.2.1, .p (.int .i64) m.2.2.2.1, .p (.int .u32) m.2.2.2.2]), (13, [], .dict (.pr (.int .i64) (.int .i64)) (.int .i64) s.2)]⟩ : St)) (fun s => VC67_k4 v22 X3 s.1 s.2) (fun s h => ?_) (fun rest4 => ?_)
              · obtain ⟨grown4, parted4⟩ := s
                have h : VC67_k4 v22 X3 grown4 parted4 := h
                unfold VC67_k4 at h
                refine thenQ_n ?_
                refine aw_region ?_
                obtain ⟨o1, h⟩ := h
                refine awl_runp 2 [1, 3, 4, 5, 16, 17, 21, 22] [1, 13] (ob := (InR (v22 + (1 : Int)) ∧ True ∧ True)) (st' := (⟨83, [(1, [], .v (.c (.ptr 1 0))), (3, [], .v (.c (.own 13))), (4, [], .v (.c (.p .bool grown4))), (5, [], .v (.c (.p (.int .i64) v17))), (16, [], .v (.c (.p (.int .i64) m.1))), (17, [], .v (.c (.p (.int .i64) v17))), (21, [], .v (.c (.p (.int .i64) m.1))), (22, [], .v (.c (.p (.int .i64) (v22 + (1 : Int)))))], [(1, [], .box [.p (.int .i64) m.1, .p (.int .i64) m.2.1, .p (.sl (.sl (.int .i64))) m.2.2.1, .p (.int .i64) m.2.2.2.1, .p (.int .u32) m.2.2.2.2]), (13, [], .dict (.pr (.int .i64) (.int .i64)) (.int .i64) parted4)]⟩ : St)) (by kernel_rfl) ⟨o1, trivial, trivial⟩ ?_
                refine awl_nil ?_
                exact thenQ_n ⟨(grown4, (v22 + (1 : Int)), parted4), rfl, h⟩
              · refine aw_block ?_
                refine aw_seq ?_
                refine aw_region ?_
                refine awl_runp 2 [1, 3, 4, 5, 6, 16, 17, 21, 22] [1, 13] (ob := (True ∧ True ∧ True)) (st' := (⟨83, [(1, [], .v (.c (.ptr 1 0))), (3, [], .v (.c (.own 13))), (4, [], .v (.c (.p .bool grown3))), (5, [], .v (.c (.p (.int .i64) v17))), (6, [], .v (.c (.p (.int .i64) v22))), (16, [], .v (.c (.p (.int .i64) m.1))), (17, [], .v (.c (.p (.int .i64) v17))), (21, [], .v (.c (.p (.int .i64) m.1))), (22, [], .v (.c (.p (.int .i64) v22)))], [(1, [], .box [.p (.int .i64) m.1, .p (.int .i64) m.2.1, .p (.sl (.sl (.int .i64))) m.2.2.1, .p (.int .i64) m.2.2.2.1, .p (.int .u32) m.2.2.2.2]), (13, [], .dict (.pr (.int .i64) (.int .i64)) (.int .i64) parted3)]⟩ : St)) (by kernel_rfl) ⟨trivial, trivial, trivial⟩ ?_
                refine awl_nil ?_
                refine thenQ_n ?_
                refine aw_seq ?_
                refine aw_seq ?_
                refine aw_region ?_
                refine awl_runp 10 [1, 3, 4, 5, 6, 8, 16, 17, 21, 22] [1, 13] (ob := (True ∧ True ∧ True ∧ True ∧ True ∧ True ∧ True ∧ True ∧ True ∧ True ∧ True)) (st' := (⟨83, [(1, [], .v (.c (.ptr 1 0))), (3, [], .v (.c (.own 13))), (4, [], .v (.c (.p .bool grown3))), (5, [], .v (.c (.p (.int .i64) v17))), (6, [], .v (.c (.p (.int .i64) v22))), (8, [], .v (.c (.p .bool ((mget parted3 (v17, v22)).isSome)))), (16, [], .v (.c (.p (.int .i64) m.1))), (17, [], .v (.c (.p (.int .i64) v17))), (21, [], .v (.c (.p (.int .i64) m.1))), (22, [], .v (.c (.p (.int .i64) v22)))], [(1, [], .box [.p (.int .i64) m.1, .p (.int .i64) m.2.1, .p (.sl (.sl (.int .i64))) m.2.2.1, .p (.int .i64) m.2.2.2.1, .p (.int .u32) m.2.2.2.2]), (13, [], .dict (.pr (.int .i64) (.int .i64)) (.int .i64) parted3)]⟩ : St)) (by kernel_rfl) ⟨trivial, trivial, trivial, trivial, trivial, trivial, trivial, trivial, trivial, trivial, trivial⟩ ?_
                refine awl_nil ?_
                refine thenQ_n ?_
                refine aw_seq ?_
                refine aw_region ?_
                refine awl_runp 1 [1, 3, 4, 5, 6, 16, 17, 21, 22, 33] [1, 13] (ob := (True ∧ True)) (st' := (⟨83, [(1, [], .v (.c (.ptr 1 0))), (3, [], .v (.c (.own 13))), (4, [], .v (.c (.p .bool grown3))), (5, [], .v (.c (.p (.int .i64) v17))), (6, [], .v (.c (.p (.int .i64) v22))), (16, [], .v (.c (.p (.int .i64) m.1))), (17, [], .v (.c (.p (.int .i64) v17))), (21, [], .v (.c (.p (.int .i64) m.1))), (22, [], .v (.c (.p (.int .i64) v22))), (33, [], .v (.c (.p .bool ((mget parted3 (v17, v22)).isSome))))], [(1, [], .box [.p (.int .i64) m.1, .p (.int .i64) m.2.1, .p (.sl (.sl (.int .i64))) m.2.2.1, .p (.int .i64) m.2.2.2.1, .p (.int .u32) m.2.2.2.2]), (13, [], .dict (.pr (.int .i64) (.int .i64)) (.int .i64) parted3)]⟩ : St)) (by kernel_rfl) ⟨trivial, trivial⟩ ?_
                refine awl_nil ?_
                refine thenQ_n ?_
                refine aw_cond (b := (mget parted3 (v17, v22)).isSome) (by kernel_rfl) (fun hb => ?_) (fun hb => ?_)
                · have h := h.1 hb
                  refine aw_conv [.prune [1, 3, 4, 5, 16, 17, 21, 22] [1, 13]] (st' := (⟨83, [(1, [], .v (.c (.ptr 1 0))), (3, [], .v (.c (.own 13))), (4, [], .v (.c (.p .bool grown3))), (5, [], .v (.c (.p (.int .i64) v17))), (16, [], .v (.c (.p (.int .i64) m.1))), (17, [], .v (.c (.p (.int .i64) v17))), (21, [], .v (.c (.p (.int .i64) m.1))), (22, [], .v (.c (.p (.int .i64) v22)))], [(1, [], .box [.p (.int .i64) m.1, .p (.int .i64) m.2.1, .p (.sl (.sl (.int .i64))) m.2.2.1, .p (.int .i64) m.2.2.2.1, .p (.int .u32) m.2.2.2.2]), (13, [], .dict (.pr (.int .i64) (.int .i64)) (.int .i64) parted3)]⟩ : St)) (by kernel_rfl) ?_
                  refine aw_exit ?_
                  refine thenQ_x ?_
                  refine blockQ_hit ?_
                  exact rest4 (grown3, parted3) h
                · have h := h.2 hb
                  refine aw_skip ?_
                  refine thenQ_n ?_
                  refine aw_seq ?_
                  refine awd_begin [] (by kernel_rfl) ?_
                  refine awd_runp (by kernel_rfl) [0, 1, 2, 4, 5, 6] [1, 3, 4, 5, 6, 16, 17, 21, 22, 35, 36, 39, 40] [1, 13] (ob := (True ∧ True ∧ True ∧ True ∧ True ∧ True ∧ True)) (done' := [6, 5, 4, 2, 1, 0]) (st' := (⟨83, [(1, [], .v (.c (.ptr 1 0))), (3, [], .v (.c (.own 13))), (4, [], .v (.c (.p .bool grown3))), (5, [], .v (.c (.p (.int .i64) v17))), (6, [], .v (.c (.p (.int .i64) v22))), (16, [], .v (.c (.p (.int .i64) m.1))), (17, [], .v (.c (.p (.int .i64) v17))), (21, [], .v (.c (.p (.int .i64) m.1))), (22, [], .v (.c (.p (.int .i64) v22))), (35, [], .v (.c (.p (.int .u32) m.2.2.2.2))), (36, [], .v (.c (.p (.int .i64) v17))), (39, [], .v (.c (.p (.int .u32) m.2.2.2.2))), (40, [], .v (.c (.p (.int .i64) v22)))], [(1, [], .box [.p (.int .i64) m.1, .p (.int .i64) m.2.1, .p (.sl (.sl (.int .i64))) m.2.2.1, .p (.int .i64) m.2.2.2.1, .p (.int .u32) m.2.2.2.2]), (13, [], .dict (.pr (.int .i64) (.int .i64)) (.int .i64) parted3)]⟩ : St)) (by kernel_rfl) ⟨trivial, trivial, trivial, trivial, trivial, trivial, trivial⟩ ?_
                  refine awd_one (i := 3) (by kernel_rfl) ?_
                  refine adop_callk (p := []) (l := [toV1 (.int .u32) m.2.2.2.2, toV1 (.int .i64) v17]) (cl := []) false [.d (.int .u32), .d (.int .i64)] [1, 3, 4, 5, 6, 16, 17, 21, 22, 37, 39, 40] [1, 13] (fun (ret37v : Bool) => VC42 m.2.2.2.2 v22 (fun (ret41v : Bool) => Loop (σ := Bool × Int) (fun s X => VC67_l4 m v17 grown3 v22 parted3 X3 s.1 s.2 X) ((ret37v != ret41v), (0 : Int)))) (fun ret37v => [toV1 .bool ret37v]) (fun ret37v => (⟨83, [(1, [], .v (.c (.ptr 1 0))), (3, [], .v (.c (.own 13))), (4, [], .v (.c (.p .bool grown3))), (5, [], .v (.c (.p (.int .i64) v17))), (6, [], .v (.c (.p (.int .i64) v22))), (16, [], .v (.c (.p (.int .i64) m.1))), (17, [], .v (.c (.p (.int .i64) v17))), (21, [], .v (.c (.p (.int .i64) m.1))), (22, [], .v (.c (.p (.int .i64) v22))), (37, [], .v (.c (.p .bool ret37v))), (39, [], .v (.c (.p (.int .u32) m.2.2.2.2))), (40, [], .v (.c (.p (.int .i64) v22)))], [(1, [], .box [.p (.int .i64) m.1, .p (.int .i64) m.2.1, .p (.sl (.sl (.int .i64))) m.2.2.1, .p (.int .i64) m.2.2.2.1, .p (.int .u32) m.2.2.2.2]), (13, [], .dict (.pr (.int .i64) (.int .i64)) (.int .i64) parted3)]⟩ : St)) rfl (by kernel_rfl) rfl (by kernel_rfl) rfl (by kernel_rfl) Try.call42 (by kernel_rfl) (fun ret37v => by kernel_rfl) (fun e => by cases e) (fun hg => link42 m.2.2.2.2 v17 _ h) (fun hg => noF hg) (fun ret37v h => ?_)
                  have h : VC42 m.2.2.2.2 v22 (fun (ret41v : Bool) => Loop (σ := Bool × Int) (fun s X => VC67_l4 m v17 grown3 v22 parted3 X3 s.1 s.2 X) ((ret37v != ret41v), (0 : Int))) := h
                  refine awd_one (i := 7) (by kernel_rfl) ?_
                  refine adop_callk (p := []) (l := [toV1 (.int .u32) m.2.2.2.2, toV1 (.int .i64) v22]) (cl := []) false [.d (.int .u32), .d (.int .i64)] [1, 3, 4, 5, 6, 16, 17, 21, 22, 37, 41] [1, 13] (fun (ret41v : Bool) => Loop (σ := Bool × Int) (fun s X => VC67_l4 m v17 grown3 v22 parted3 X3 s.1 s.2 X) ((ret37v != ret41v), (0 : Int))) (fun ret41v => [toV1 .bool ret41v]) (fun ret41v => (⟨83, [(1, [], .v (.c (.ptr 1 0))), (3, [], .v (.c (.own 13))), (4, [], .v (.c (.p .bool grown3))), (5, [], .v (.c (.p (.int .i64) v17))), (6, [], .v (.c (.p (.int .i64) v22))), (16, [], .v (.c (.p (.int .i64) m.1))), (17, [], .v (.c (.p (.int .i64) v17))), (21, [], .v (.c (.p (.int .i64) m.1))), (22, [], .v (.c (.p (.int .i64) v22))), (37, [], .v (.c (.p .bool ret37v))), (41, [], .v (.c (.p .bool ret41v)))], [(1, [], .box [.p (.int .i64) m.1, .p (.int .i64) m.2.1, .p (.sl (.sl (.int .i64))) m.2.2.1, .p (.int .i64) m.2.2.2.1, .p (.int .u32) m.2.2.2.2]), (13, [], .dict (.pr (.int .i64) (.int .i64)) (.int .i64) parted3)]⟩ : St)) rfl (by kernel_rfl) rfl (by kernel_rfl) rfl (by kernel_rfl) Try.call42 (by kernel_rfl) (fun ret41v => by kernel_rfl) (fun e => by cases e) (fun hg => link42 m.2.2.2.2 v22 _ h) (fun hg => noF hg) (fun ret41v h => ?_)
                  have h : Loop (σ := Bool × Int) (fun s X => VC67_l4 m v17 grown3 v22 parted3 X3 s.1 s.2 X) ((ret37v != ret41v), (0 : Int)) := h
                  refine awd_runp (by kernel_rfl) [8, 9] [1, 3, 4, 5, 6, 9, 16, 17, 21, 22] [1, 13] (ob := (True ∧ True ∧ True)) (done' := [9, 8, 7, 3, 6, 5, 4, 2, 1, 0]) (st' := (⟨83, [(1, [], .v (.c (.ptr 1 0))), (3, [], .v (.c (.own 13))), (4, [], .v (.c (.p .bool grown3))), (5, [], .v (.c (.p (.int .i64) v17))), (6, [], .v (.c (.p (.int .i64) v22))), (9, [], .v (.c (.p .bool (ret37v != ret41v)))), (16, [], .v (.c (.p (.int .i64) m.1))), (17, [], .v (.c (.p (.int .i64) v17))), (21, [], .v (.c (.p (.int .i64) m.1))), (22, [], .v (.c (.p (.int .i64) v22)))], [(1, [], .box [.p (.int .i64) m.1, .p (.int .i64) m.2.1, .p (.sl (.sl (.int .i64))) m.2.2.1, .p (.int .i64) m.2.2.2.1, .p (.int .u32) m.2.2.2.2]), (13, [], .dict (.pr (.int .i64) (.int .i64)) (.int .i64) parted3)]⟩ : St)) (by kernel_rfl) ⟨trivial, trivial, trivial⟩ ?_
                  refine awd_done (by kernel_rfl) ?_
                  refine thenQ_n ?_
                  refine aw_seq ?_
                  refine aw_seq ?_
                  refine aw_region ?_
                  refine awl_runp 3 [1, 3, 4, 5, 6, 9, 16, 17, 21, 22, 44, 45] [1, 13] (ob := (True ∧ True ∧ True ∧ True)) (st' := (⟨83, [(1, [], .v (.c (.ptr 1 0))), (3, [], .v (.c (.own 13))), (4, [], .v (.c (.p .bool grown3))), (5, [], .v (.c (.p (.int .i64) v17))), (6, [], .v (.c (.p (.int .i64) v22))), (9, [], .v (.c (.p .bool (ret37v != ret41v)))), (16, [], .v (.c (.p (.int .i64) m.1))), (17, [], .v (.c (.p (.int .i64) v17))), (21, [], .v (.c (.p (.int .i64) m.1))), (22, [], .v (.c (.p (.int .i64) v22))), (44, [], .v (.c (.p (.int .i64) m.2.1))), (45, [], .v (.c (.p (.int .i64) (0 : Int))))], [(1, [], .box [.p (.int .i64) m.1, .p (.int .i64) m.2.1, .p (.sl (.sl (.int .i64))) m.2.2.1, .p (.int .i64) m.2.2.2.1, .p (.int .u32) m.2.2.2.2]), (13, [], .dict (.pr (.int .i64) (.int .i64)) (.int .i64) parted3)]⟩ : St)) (by kernel_rfl) ⟨trivial, trivial, trivial, trivial⟩ ?_
                  refine awl_nil ?_
                  refine thenQ_n ?_
                  refine withJoin (σ := Bool) (fun s => (⟨83, [(1, [], .v (.c (.ptr 1 0))), (3, [], .v (.c (.own 13))), (4, [], .v (.c (.p .bool grown3))), (5, [], .v (.c (.p (.int .i64) v17))), (6, [], .v (.c (.p (.int .i64) v22))), (9, [], .v (.c (.p .bool s))), (16, [], .v (.c (.p (.int .i64) m.1))), (17, [], .v (.c (.p (.int .i64) v17))), (21, [], .v (.c (.p (.int .i64) m.1))), (22, [], .v (.c (.p (.int .i64) v22)))], [(1, [], .box [.p (.int .i64) m.1, .p (.int .i64) m.2.1, .p (.sl (.sl (.int .i64))) m.2.2.1, .p (.int .i64) m.2.2.2.1, .p (.int .u32) m.2.2.2.2]), (13, [], .dict (.pr (.int .i64) (.int .i64)) (.int .i64) parted3)]⟩ : St)) (fun s => VC67_k5 v17 grown3 v22 parted3 X3 s) (fun is h => ?_) (fun rest6 => ?_)
                  · have h : VC67_k5 v17 grown3 v22 parted3 X3 is := h
                    unfold VC67_k5 at h
                    refine thenQ_n ?_
                    refine aw_seq ?_
                    refine aw_region ?_
                    refine awl_runp 1 [1, 3, 4, 5, 6, 16, 17, 21, 22, 75] [1, 13] (ob := (True ∧ True)) (st' := (⟨83, [(1, [], .v (.c (.ptr 1 0))), (3, [], .v (.c (.own 13))), (4, [], .v (.c (.p .bool grown3))), (5, [], .v (.c (.p (.int .i64) v17))), (6, [], .v (.c (.p (.int .i64) v22))), (16, [], .v (.c (.p (.int .i64) m.1))), (17, [], .v (.c (.p (.int .i64) v17))), (21, [], .v (.c (.p (.int .i64) m.1))), (22, [], .v (.c (.p (.int .i64) v22))), (75, [], .v (.c (.p .bool is)))], [(1, [], .box [.p (.int .i64) m.1, .p (.int .i64) m.2.1, .p (.sl (.sl (.int .i64))) m.2.2.1, .p (.int .i64) m.2.2.2.1, .p (.int .u32) m.2.2.2.2]), (13, [], .dict (.pr (.int .i64) (.int .i64)) (.int .i64) parted3)]⟩ : St)) (by kernel_rfl) ⟨trivial, trivial⟩ ?_
                    refine awl_nil ?_
                    refine thenQ_n ?_
                    refine withJoin (σ := Bool × (List ((Int × Int) × Int))) (fun s => (⟨83, [(1, [], .v (.c (.ptr 1 0))), (3, [], .v (.c (.own 13))), (4, [], .v (.c (.p .bool s.1))), (5, [], .v (.c (.p (.int .i64) v17))), (16, [], .v (.c (.p (.int .i64) m.1))), (17, [], .v (.c (.p (.int .i64) v17))), (21, [], .v (.c (.p (.int .i64) m.1))), (22, [], .v (.c (.p (.int .i64) v22)))], [(1, [], .box [.p (.int .i64) m.1, .p (.int .i64) m.2.1, .p (.sl (.sl (.int .i64))) m.2.2.1, .p (.int .i64) m.2.2.2.1, .p (.int .u32) m.2.2.2.2]), (13, [], .dict (.pr (.int .i64) (.int .i64)) (.int .i64) s.2)]⟩ : St)) (fun s => VC67_k6 v22 X3 s.1 s.2) (fun s h => ?_) (fun rest5 => ?_)
                    · obtain ⟨grown4, parted4⟩ := s
                      have h : VC67_k6 v22 X3 grown4 parted4 := h
                      unfold VC67_k6 at h
                      refine blockQ_n ?_
                      exact rest4 (grown4, parted4) h
                    · refine aw_cond (b := is) (by kernel_rfl) (fun hb => ?_) (fun hb => ?_)
                      · have h := h.1 hb
                        refine aw_seq ?_
                        refine aw_region ?_
                        refine awl_runp 5 [1, 3, 5, 16, 17, 21, 22] [1, 13] (ob := (True ∧ True ∧ True ∧ True ∧ True ∧ True)) (st' := (⟨83, [(1, [], .v (.c (.ptr 1 0))), (3, [], .v (.c (.own 13))), (5, [], .v (.c (.p (.int .i64) v17))), (16, [], .v (.c (.p (.int .i64) m.1))), (17, [], .v (.c (.p (.int .i64) v17))), (21, [], .v (.c (.p (.int .i64) m.1))), (22, [], .v (.c (.p (.int .i64) v22)))], [(1, [], .box [.p (.int .i64) m.1, .p (.int .i64) m.2.1, .p (.sl (.sl (.int .i64))) m.2.2.1, .p (.int .i64) m.2.2.2.1, .p (.int .u32) m.2.2.2.2]), (13, [], .dict (.pr (.int .i64) (.int .i64)) (.int .i64) (mset parted3 (v17, v22) (1 : Int)))]⟩ : St)) (by kernel_rfl) ⟨trivial, trivial, trivial, trivial, trivial, trivial⟩ ?_
                        refine awl_nil ?_
                        refine thenQ_n ?_
                        refine aw_region ?_
                        refine awl_runp 1 [1, 3, 4, 5, 16, 17, 21, 22] [1, 13] (ob := (True ∧ True)) (st' := (⟨83, [(1, [], .v (.c (.ptr 1 0))), (3, [], .v (.c (.own 13))), (4, [], .v (.c (.p .bool true))), (5, [], .v (.c (.p (.int .i64) v17))), (16, [], .v (.c (.p (.int .i64) m.1))), (17, [], .v (.c (.p (.int .i64) v17))), (21, [], .v (.c (.p (.int .i64) m.1))), (22, [], .v (.c (.p (.int .i64) v22)))], [(1, [], .box [.p (.int .i64) m.1, .p (.int .i64) m.2.1, .p (.sl (.sl (.int .i64))) m.2.2.1, .p (.int .i64) m.2.2.2.1, .p (.int .u32) m.2.2.2.2]), (13, [], .dict (.pr (.int .i64) (.int .i64)) (.int .i64) (mset parted3 (v17, v22) (1 : Int)))]⟩ : St)) (by kernel_rfl) ⟨trivial, trivial⟩ ?_
                        refine awl_nil ?_
                        exact rest5 (true, (mset parted3 (v17, v22) (1 : Int))) h
                      · have h := h.2 hb
                        refine aw_conv [.prune [1, 3, 4, 5, 16, 17, 21, 22] [1, 13]] (st' := (⟨83, [(1, [], .v (.c (.ptr 1 0))), (3, [], .v (.c (.own 13))), (4, [], .v (.c (.p .bool grown3))), (5, [], .v (.c (.p (.int .i64) v17))), (16, [], .v (.c (.p (.int .i64) m.1))), (17, [], .v (.c (.p (.int .i64) v17))), (21, [], .v (.c (.p (.int .i64) m.1))), (22, [], .v (.c (.p (.int .i64) v22)))], [(1, [], .box [.p (.int .i64) m.1, .p (.int .i64) m.2.1, .p (.sl (.sl (.int .i64))) m.2.2.1, .p (.int .i64) m.2.2.2.1, .p (.int .u32) m.2.2.2.2]), (13, [], .dict (.pr (.int .i64) (.int .i64)) (.int .i64) parted3)]⟩ : St)) (by kernel_rfl) ?_
                        refine aw_skip ?_
                        exact rest5 (grown3, parted3) h
                  · refine aw_block ?_
                    refine aw_loop (σ := Bool × Int) (fun s => (⟨83, [(1, [], .v (.c (.ptr 1 0))), (3, [], .v (.c (.own 13))), (4, [], .v (.c (.p .bool grown3))), (5, [], .v (.c (.p (.int .i64) v17))), (6, [], .v (.c (.p (.int .i64) v22))), (9, [], .v (.c (.p .bool s.1))), (16, [], .v (.c (.p (.int .i64) m.1))), (17, [], .v (.c (.p (.int .i64) v17))), (21, [], .v (.c (.p (.int .i64) m.1))), (22, [], .v (.c (.p (.int .i64) v22))), (44, [], .v (.c (.p (.int .i64) m.2.1))), (45, [], .v (.c (.p (.int .i64) s.2)))], [(1, [], .box [.p (.int .i64) m.1, .p (.int .i64) m.2.1, .p (.sl (.sl (.int .i64))) m.2.2.1, .p (.int .i64) m.2.2.2.1, .p (.int .u32) m.2.2.2.2]), (13, [], .dict (.pr (.int .i64) (.int .i64)) (.int .i64) parted3)]⟩ : St)) (fun s X => VC67_l4 m v17 grown3 v22 parted3 X3 s.1 s.2 X) (s0 := ((ret37v != ret41v), (0 : Int))) (fun s X4 h => ?_) h
                    obtain ⟨is, v45⟩ := s
                    have h : VC67_l4 m v17 grown3 v22 parted3 X3 is v45 X4 := h
                    unfold VC67_l4 at h
                    refine aw_seq ?_
                    refine aw_region ?_
                    refine awl_runp 1 [1, 3, 4, 5, 6, 9, 16, 17, 21, 22, 44, 45, 46] [1, 13] (ob := (True ∧ True)) (st' := (⟨83, [(1, [], .v (.c (.ptr 1 0))), (3, [], .v (.c (.own 13))), (4, [], .v (.c (.p .bool grown3))), (5, [], .v (.c (.p (.int .i64) v17))), (6, [], .v (.c (.p (.int .i64) v22))), (9, [], .v (.c (.p .bool is))), (16, [], .v (.c (.p (.int .i64) m.1))), (17, [], .v (.c (.p (.int .i64) v17))), (21, [], .v (.c (.p (.int .i64) m.1))), (22, [], .v (.c (.p (.int .i64) v22))), (44, [], .v (.c (.p (.int .i64) m.2.1))), (45, [], .v (.c (.p (.int .i64) v45))), (46, [], .v (.c (.p .bool (decide (v45 < m.2.1)))))], [(1, [], .box [.p (.int .i64) m.1, .p (.int .i64) m.2.1, .p (.sl (.sl (.int .i64))) m.2.2.1, .p (.int .i64) m.2.2.2.1, .p (.int .u32) m.2.2.2.2]), (13, [], .dict (.pr (.int .i64) (.int .i64)) (.int .i64) parted3)]⟩ : St)) (by kernel_rfl) ⟨trivial, trivial⟩ ?_
                    refine awl_nil ?_
                    refine thenQ_n ?_
                    refine aw_seq ?_
                    refine aw_cond (b := (decide (v45 < m.2.1))) (by kernel_rfl) (fun hb => ?_) (fun hb => ?_)
                    · have h := h.1 hb
                      refine aw_skip ?_
                      refine thenQ_n ?_
                      refine aw_seq ?_
                      refine aw_block ?_
                      refine aw_seq ?_
                      refine aw_region ?_
                      refine awl_runp 2 [1, 3, 4, 5, 6, 9, 10, 16, 17, 21, 22, 44, 45] [1, 13] (ob := (True ∧ True ∧ True)) (st' := (⟨83, [(1, [], .v (.c (.ptr 1 0))), (3, [], .v (.c (.own 13))), (4, [], .v (.c (.p .bool grown3))), (5, [], .v (.c (.p (.int .i64) v17))), (6, [], .v (.c (.p (.int .i64) v22))), (9, [], .v (.c (.p .bool is))), (10, [], .v (.c (.p (.int .i64) v45))), (16, [], .v (.c (.p (.int .i64) m.1))), (17, [], .v (.c (.p (.int .i64) v17))), (21, [], .v (.c (.p (.int .i64) m.1))), (22, [], .v (.c (.p (.int .i64) v22))), (44, [], .v (.c (.p (.int .i64) m.2.1))), (45, [], .v (.c (.p (.int .i64) v45)))], [(1, [], .box [.p (.int .i64) m.1, .p (.int .i64) m.2.1, .p (.sl (.sl (.int .i64))) m.2.2.1, .p (.int .i64) m.2.2.2.1, .p (.int .u32) m.2.2.2.2]), (13, [], .dict (.pr (.int .i64) (.int .i64)) (.int .i64) parted3)]⟩ : St)) (by kernel_rfl) ⟨trivial, trivial, trivial⟩ ?_
                      refine awl_nil ?_
                      refine thenQ_n ?_
                      refine aw_seq ?_
                      refine awd_begin [] (by kernel_rfl) ?_
                      obtain ⟨o1, o2, o3, o4, h⟩ := h
                      refine awd_runp (by kernel_rfl) [0, 1, 2, 3, 4, 5, 6, 7, 8, 9, 10, 11, 12, 13, 14, 15, 16, 17, 18, 19, 20, 21, 22, 23] [1, 3, 4, 5, 6, 9, 12, 16, 17, 21, 22, 44, 45] [1, 13] (ob := (True ∧ True ∧ True ∧ True ∧ inIdx v17 m.2.2.1.length ∧ True ∧ True ∧ inIdx v45 (m.2.2.1.getD (v17).toNat ([] : (List Int))).length ∧ True ∧ True ∧ True ∧ True ∧ inIdx v22 m.2.2.1.length ∧ True ∧ True ∧ inIdx v45 (m.2.2.1.getD (v22).toNat ([] : (List Int))).length ∧ True ∧ True ∧ True ∧ True ∧ True ∧ True ∧ True ∧ True ∧ True)) (done' := [23, 22, 21, 20, 19, 18, 17, 16, 15, 14, 13, 12, 11, 10, 9, 8, 7, 6, 5, 4, 3, 2, 1, 0]) (st' := (⟨83, [(1, [], .v (.c (.ptr 1 0))), (3, [], .v (.c (.own 13))), (4, [], .v (.c (.p .bool grown3))), (5, [], .v (.c (.p (.int .i64) v17))), (6, [], .v (.c (.p (.int .i64) v22))), (9, [], .v (.c (.p .bool is))), (12, [], .v (.c (.p .bool ((mget parted3 (((m.2.2.1.getD (v17).toNat ([] : (List Int))).getD (v45).toNat (0 : Int)), ((m.2.2.1.getD (v22).toNat ([] : (List Int))).getD (v45).toNat (0 : Int)))).isSome)))), (16, [], .v (.c (.p (.int .i64) m.1))), (17, [], .v (.c (.p (.int .i64) v17))), (21, [], .v (.c (.p (.int .i64) m.1))), (22, [], .v (.c (.p (.int .i64) v22))), (44, [], .v (.c (.p (.int .i64) m.2.1))), (45, [], .v (.c (.p (.int .i64) v45)))], [(1, [], .box [.p (.int .i64) m.1, .p (.int .i64) m.2.1, .p (.sl (.sl (.int .i64))) m.2.2.1, .p (.int .i64) m.2.2.2.1, .p (.int .u32) m.2.2.2.2]), (13, [], .dict (.pr (.int .i64) (.int .i64)) (.int .i64) parted3)]⟩ : St)) (by kernel_rfl) ⟨trivial, trivial, trivial, trivial, o1, trivial, trivial, o2, trivial, trivial, trivial, trivial, o3, trivial, trivial, o4, trivial, trivial, trivial, trivial, trivial, trivial, trivial, trivial, trivial⟩ ?_
                      refine awd_done (by kernel_rfl) ?_
                      refine thenQ_n ?_
                      refine aw_region ?_
                      refine awl_runp 5 [1, 3, 4, 5, 6, 9, 16, 17, 21, 22, 44, 45] [1, 13] (ob := (True ∧ True ∧ (is = false → True) ∧ True ∧ True ∧ True)) (st' := (⟨83, [(1, [], .v (.c (.ptr 1 0))), (3, [], .v (.c (.own 13))), (4, [], .v (.c (.p .bool grown3))), (5, [], .v (.c (.p (.int .i64) v17))), (6, [], .v (.c (.p (.int .i64) v22))), (9, [], .v (.c (.p .bool (is || (mget parted3 (((m.2.2.1.getD (v17).toNat ([] : (List Int))).getD (v45).toNat (0 : Int)), ((m.2.2.1.getD (v22).toNat ([] : (List Int))).getD (v45).toNat (0 : Int)))).isSome)))), (16, [], .v (.c (.p (.int .i64) m.1))), (17, [], .v (.c (.p (.int .i64) v17))), (21, [], .v (.c (.p (.int .i64) m.1))), (22, [], .v (.c (.p (.int .i64) v22))), (44, [], .v (.c (.p (.int .i64) m.2.1))), (45, [], .v (.c (.p (.int .i64) v45)))], [(1, [], .box [.p (.int .i64) m.1, .p (.int .i64) m.2.1, .p (.sl (.sl (.int .i64))) m.2.2.1, .p (.int .i64) m.2.2.2.1, .p (.int .u32) m.2.2.2.2]), (13, [], .dict (.pr (.int .i64) (.int .i64)) (.int .i64) parted3)]⟩ : St)) (by kernel_rfl) ⟨trivial, trivial, (fun _ => trivial), trivial, trivial, trivial⟩ ?_
                      refine awl_nil ?_
                      refine blockQ_n ?_
                      refine thenQ_n ?_
                      refine aw_region ?_
                      obtain ⟨o1, h⟩ := h
                      refine awl_runp 2 [1, 3, 4, 5, 6, 9, 16, 17, 21, 22, 44, 45] [1, 13] (ob := (InR (v45 + (1 : Int)) ∧ True ∧ True)) (st' := (⟨83, [(1, [], .v (.c (.ptr 1 0))), (3, [], .v (.c (.own 13))), (4, [], .v (.c (.p .bool grown3))), (5, [], .v (.c (.p (.int .i64) v17))), (6, [], .v (.c (.p (.int .i64) v22))), (9, [], .v (.c (.p .bool (is || (mget parted3 (((m.2.2.1.getD (v17).toNat ([] : (List Int))).getD (v45).toNat (0 : Int)), ((m.2.2.1.getD (v22).toNat ([] : (List Int))).getD (v45).toNat (0 : Int)))).isSome)))), (16, [], .v (.c (.p (.int .i64) m.1))), (17, [], .v (.c (.p (.int .i64) v17))), (21, [], .v (.c (.p (.int .i64) m.1))), (22, [], .v (.c (.p (.int .i64) v22))), (44, [], .v (.c (.p (.int .i64) m.2.1))), (45, [], .v (.c (.p (.int .i64) (v45 + (1 : Int)))))], [(1, [], .box [.p (.int .i64) m.1, .p (.int .i64) m.2.1, .p (.sl (.sl (.int .i64))) m.2.2.1, .p (.int .i64) m.2.2.2.1, .p (.int .u32) m.2.2.2.2]), (13, [], .dict (.pr (.int .i64) (.int .i64)) (.int .i64) parted3)]⟩ : St)) (by kernel_rfl) ⟨o1, trivial, trivial⟩ ?_
                      refine awl_nil ?_
                      exact thenQ_n ⟨((is || (mget parted3 (((m.2.2.1.getD (v17).toNat ([] : (List Int))).getD (v45).toNat (0 : Int)), ((m.2.2.1.getD (v22).toNat ([] : (List Int))).getD (v45).toNat (0 : Int)))).isSome), (v45 + (1 : Int))), rfl, h⟩
                    · have h := h.2 hb
                      refine aw_conv [.prune [1, 3, 4, 5, 6, 9, 16, 17, 21, 22] [1, 13]] (st' := (⟨83, [(1, [], .v (.c (.ptr 1 0))), (3, [], .v (.c (.own 13))), (4, [], .v (.c (.p .bool grown3))), (5, [], .v (.c (.p (.int .i64) v17))), (6, [], .v (.c (.p (.int .i64) v22))), (9, [], .v (.c (.p .bool is))), (16, [], .v (.c (.p (.int .i64) m.1))), (17, [], .v (.c (.p (.int .i64) v17))), (21, [], .v (.c (.p (.int .i64) m.1))), (22, [], .v (.c (.p (.int .i64) v22)))], [(1, [], .box [.p (.int .i64) m.1, .p (.int .i64) m.2.1, .p (.sl (.sl (.int .i64))) m.2.2.1, .p (.int .i64) m.2.2.2.1, .p (.int .u32) m.2.2.2.2]), (13, [], .dict (.pr (.int .i64) (.int .i64)) (.int .i64) parted3)]⟩ : St)) (by kernel_rfl) ?_
                      refine aw_exit ?_
                      refine thenQ_x ?_
                      refine thenQ_x ?_
                      refine blockQ_hit ?_
                      exact rest6 is h
            · have h := h.2 hb
              refine aw_conv [.prune [1, 3, 4, 16, 17] [1, 13]] (st' := (⟨83, [(1, [], .v (.c (.ptr 1 0))), (3, [], .v (.c (.own 13))), (4, [], .v (.c (.p .bool grown3))), (16, [], .v (.c (.p (.int .i64) m.1))), (17, [], .v (.c (.p (.int .i64) v17)))], [(1, [], .box [.p (.int .i64) m.1, .p (.int .i64) m.2.1, .p (.sl (.sl (.int .i64))) m.2.2.1, .p (.int .i64) m.2.2.2.1, .p (.int .u32) m.2.2.2.2]), (13, [], .dict (.pr (.int .i64) (.int .i64)) (.int .i64) parted3)]⟩ : St)) (by kernel_rfl) ?_
              refine aw_exit ?_
              refine thenQ_x ?_
              refine thenQ_x ?_
              refine blockQ_hit ?_
              exact rest3 (grown3, parted3) h
        · have h := h.2 hb
          refine aw_conv [.prune [1, 3, 4] [1, 13]] (st' := (⟨83, [(1, [], .v (.c (.ptr 1 0))), (3, [], .v (.c (.own 13))), (4, [], .v (.c (.p .bool grown2)))], [(1, [], .box [.p (.int .i64) m.1, .p (.int .i64) m.2.1, .p (.sl (.sl (.int .i64))) m.2.2.1, .p (.int .i64) m.2.2.2.1, .p (.int .u32) m.2.2.2.2]), (13, [], .dict (.pr (.int .i64) (.int .i64)) (.int .i64) parted2)]⟩ : St)) (by kernel_rfl) ?_
          refine aw_exit ?_
          refine thenQ_x ?_
          refine thenQ_x ?_
          refine blockQ_hit ?_
          exact rest2 (grown2, parted2) h
    · have h := h.2 hb
      refine aw_conv [.prune [3] [13]] (st' := (⟨83, [(3, [], .v (.c (.own 13)))], [(13, [], .dict (.pr (.int .i64) (.int .i64)) (.int .i64) parted)]⟩ : St)) (by kernel_rfl) ?_
      refine aw_exit ?_
      refine thenQ_x ?_
      refine thenQ_x ?_
      refine blockQ_hit ?_
      exact rest1 parted h

-- coppicer/least.alike
def VC48_k1 (K : (List Int) → Prop) (out : (List Int)) : Prop :=
  K out

def VC48_k2 (v16 : Int) (X1 : Int × (List Int) → Prop) (out2 : (List Int)) : Prop :=
  (InR (v16 + (1 : Int)) ∧ X1 ((v16 + (1 : Int)), out2))

def VC48_l2 (m : (Int × (Int × ((List (List Int)) × (Int × Int))))) (ret10v : (List ((Int × Int) × Int))) (v16 : Int) (out : (List Int)) (X1 : Int × (List Int) → Prop) (v21 : Int) (X2 : Int → Prop) : Prop :=
  (((decide (v21 < m.1)) = true → (((!(mget ret10v (v16, v21)).isSome) = true → (inIdx v16 out.length ∧ VC48_k2 v16 X1 (out.set ((v16).toNat) v21))) ∧ ((!(mget ret10v (v16, v21)).isSome) = false → (InR (v21 + (1 : Int)) ∧ X2 (v21 + (1 : Int)))))) ∧ ((decide (v21 < m.1)) = false → VC48_k2 v16 X1 out))

def VC48_l1 (m : (Int × (Int × ((List (List Int)) × (Int × Int))))) (K : (List Int) → Prop) (ret10v : (List ((Int × Int) × Int))) (v16 : Int) (out : (List Int)) (X1 : Int × (List Int) → Prop) : Prop :=
  (((decide (v16 < ((List.replicate (m.1).toNat (0 : Int)).length : Int))) = true → Loop (σ := Int) (fun s X => VC48_l2 m ret10v v16 out X1 s X) (0 : Int)) ∧ ((decide (v16 < ((List.replicate (m.1).toNat (0 : Int)).length : Int))) = false → VC48_k1 K out))

def VC48 (m : (Int × (Int × ((List (List Int)) × (Int × Int))))) (K : (List Int) → Prop) : Prop :=
  VC67 m (fun (ret10v : (List ((Int × Int) × Int))) => (room m.1 ∧ Loop (σ := Int × (List Int)) (fun s X => VC48_l1 m K ret10v s.1 s.2 X) ((0 : Int), (List.replicate (m.1).toNat (0 : Int)))))

set_option maxHeartbeats 4000000 in
theorem link48 (m : (Int × (Int × ((List (List Int)) × (Int × Int))))) (K : (List Int) → Prop) (h : VC48 m K) : ACalls Try.prog 48 [toV1 (.pr (.int .i64) (.pr (.int .i64) (.pr (.sl (.sl (.int .i64))) (.pr (.int .i64) (.int .u32))))) m] (fun res => ∃ y, res = (fun y => [toV1 (.sl (.int .i64)) y]) y ∧ K y) := by
  refine acalls_of_aw [(.sl (.int .i64))] [.t 2] Try.func48 rfl rfl rfl ?_
  unfold VC48 at h
  refine aw_seq ?_
  refine aw_region ?_
  refine awl_runp 2 [1] [1] (ob := (True ∧ True ∧ True)) (st' := (⟨41, [(1, [], .v (.c (.ptr 1 0)))], [(1, [], .box [.p (.int .i64) m.1, .p (.int .i64) m.2.1, .p (.sl (.sl (.int .i64))) m.2.2.1, .p (.int .i64) m.2.2.2.1, .p (.int .u32) m.2.2.2.2])]⟩ : St)) (by kernel_rfl) ⟨trivial, trivial, trivial⟩ ?_
  refine awl_nil ?_
  refine thenQ_n ?_
  refine aw_seq ?_
  refine aw_region ?_
  refine awl_runp 1 [1, 9] [1] (ob := (True ∧ True)) (st' := (⟨41, [(1, [], .v (.c (.ptr 1 0))), (9, [], .v (.agg [.p (.int .i64) m.1, .p (.int .i64) m.2.1, .p (.sl (.sl (.int .i64))) m.2.2.1, .p (.int .i64) m.2.2.2.1, .p (.int .u32) m.2.2.2.2]))], [(1, [], .box [.p (.int .i64) m.1, .p (.int .i64) m.2.1, .p (.sl (.sl (.int .i64))) m.2.2.1, .p (.int .i64) m.2.2.2.1, .p (.int .u32) m.2.2.2.2])]⟩ : St)) (by kernel_rfl) ⟨trivial, trivial⟩ ?_
  refine awl_callk (p := []) (l := [toV1 (.pr (.int .i64) (.pr (.int .i64) (.pr (.sl (.sl (.int .i64))) (.pr (.int .i64) (.int .u32))))) m]) (cl := []) false [.d (.pr (.int .i64) (.pr (.int .i64) (.pr (.sl (.sl (.int .i64))) (.pr (.int .i64) (.int .u32)))))] [1, 10] [1] (fun (ret10v : (List ((Int × Int) × Int))) => (room m.1 ∧ Loop (σ := Int × (List Int)) (fun s X => VC48_l1 m K ret10v s.1 s.2 X) ((0 : Int), (List.replicate (m.1).toNat (0 : Int))))) (fun ret10v => [toV1 (.mp (.pr (.int .i64) (.int .i64)) (.int .i64)) ret10v]) (fun ret10v => (⟨41, [(1, [], .v (.c (.ptr 1 0))), (10, [], .v (.c (.p (.mp (.pr (.int .i64) (.int .i64)) (.int .i64)) ret10v)))], [(1, [], .box [.p (.int .i64) m.1, .p (.int .i64) m.2.1, .p (.sl (.sl (.int .i64))) m.2.2.1, .p (.int .i64) m.2.2.2.1, .p (.int .u32) m.2.2.2.2])]⟩ : St)) (by kernel_rfl) rfl (by kernel_rfl) rfl (by kernel_rfl) Try.call67 (by kernel_rfl) (fun ret10v => by kernel_rfl) (fun e => by cases e) (fun hg => link67 m _ h) (fun hg => noF hg) (fun ret10v h => ?_)
  have h : (room m.1 ∧ Loop (σ := Int × (List Int)) (fun s X => VC48_l1 m K ret10v s.1 s.2 X) ((0 : Int), (List.replicate (m.1).toNat (0 : Int)))) := h
  refine awl_runp 1 [1, 3] [1] (ob := (True ∧ True)) (st' := (⟨41, [(1, [], .v (.c (.ptr 1 0))), (3, [], .v (.c (.p (.mp (.pr (.int .i64) (.int .i64)) (.int .i64)) ret10v)))], [(1, [], .box [.p (.int .i64) m.1, .p (.int .i64) m.2.1, .p (.sl (.sl (.int .i64))) m.2.2.1, .p (.int .i64) m.2.2.2.1, .p (.int .u32) m.2.2.2.2])]⟩ : St)) (by kernel_rfl) ⟨trivial, trivial⟩ ?_
  refine awl_nil ?_
  refine thenQ_n ?_
  refine aw_seq ?_
  refine aw_region ?_
  obtain ⟨o1, h⟩ := h
  refine awl_runp 4 [1, 3, 4] [1, 13] (ob := (True ∧ True ∧ room m.1 ∧ True ∧ True)) (st' := (⟨41, [(1, [], .v (.c (.ptr 1 0))), (3, [], .v (.c (.p (.mp (.pr (.int .i64) (.int .i64)) (.int .i64)) ret10v))), (4, [], .v (.c (.own 13)))], [(1, [], .box [.p (.int .i64) m.1, .p (.int .i64) m.2.1, .p (.sl (.sl (.int .i64))) m.2.2.1, .p (.int .i64) m.2.2.2.1, .p (.int .u32) m.2.2.2.2]), (13, [], .arr 3 (.int .i64) (List.replicate (m.1).toNat (0 : Int)))]⟩ : St)) (by kernel_rfl) ⟨trivial, trivial, o1, trivial, trivial⟩ ?_
  refine awl_nil ?_
  refine thenQ_n ?_
  refine aw_seq ?_
  refine aw_seq ?_
  refine aw_region ?_
  refine awl_runp 3 [1, 3, 4, 15, 16] [1, 13] (ob := (True ∧ True ∧ True ∧ True)) (st' := (⟨41, [(1, [], .v (.c (.ptr 1 0))), (3, [], .v (.c (.p (.mp (.pr (.int .i64) (.int .i64)) (.int .i64)) ret10v))), (4, [], .v (.c (.own 13))), (15, [], .v (.c (.p (.int .i64) ((List.replicate (m.1).toNat (0 : Int)).length : Int)))), (16, [], .v (.c (.p (.int .i64) (0 : Int))))], [(1, [], .box [.p (.int .i64) m.1, .p (.int .i64) m.2.1, .p (.sl (.sl (.int .i64))) m.2.2.1, .p (.int .i64) m.2.2.2.1, .p (.int .u32) m.2.2.2.2]), (13, [], .arr 3 (.int .i64) (List.replicate (m.1).toNat (0 : Int)))]⟩ : St)) (by kernel_rfl) ⟨trivial, trivial, trivial, trivial⟩ ?_
  refine awl_nil ?_
  refine thenQ_n ?_
  refine withJoin (σ := (List Int)) (fun s => (⟨41, [(4, [], .v (.c (.own 13)))], [(13, [], .arr 3 (.int .i64) s)]⟩ : St)) (fun s => VC48_k1 K s) (fun out h => ?_) (fun rest1 => ?_)
  · have h : VC48_k1 K out := h
    unfold VC48_k1 at h
    refine thenQ_n ?_
    refine aw_seq ?_
    refine aw_region ?_
    refine awl_runp 2 [2] [13] (ob := (True ∧ True ∧ True)) (st' := (⟨41, [(2, [], .v (.c (.own 13)))], [(13, [], .arr 3 (.int .i64) out)]⟩ : St)) (by kernel_rfl) ⟨trivial, trivial, trivial⟩ ?_
    refine awl_nil ?_
    refine thenQ_n ?_
    refine aw_conv [.freeze 13] (st' := (⟨41, [(2, [], .v (.c (.p (.sl (.int .i64)) out)))], []⟩ : St)) (by kernel_rfl) ?_
    refine aw_ret ?_
    exact retQ_r (σ := (List Int)) (R := (fun y => [toV1 (.sl (.int .i64)) y])) (ob := (True ∧ True)) out (by kernel_rfl) ⟨trivial, trivial⟩ h
  · refine aw_block ?_
    refine aw_loop (σ := Int × (List Int)) (fun s => (⟨41, [(1, [], .v (.c (.ptr 1 0))), (3, [], .v (.c (.p (.mp (.pr (.int .i64) (.int .i64)) (.int .i64)) ret10v))), (4, [], .v (.c (.own 13))), (15, [], .v (.c (.p (.int .i64) ((List.replicate (m.1).toNat (0 : Int)).length : Int)))), (16, [], .v (.c (.p (.int .i64) s.1)))], [(1, [], .box [.p (.int .i64) m.1, .p (.int .i64) m.2.1, .p (.sl (.sl (.int .i64))) m.2.2.1, .p (.int .i64) m.2.2.2.1, .p (.int .u32) m.2.2.2.2]), (13, [], .arr 3 (.int .i64) s.2)]⟩ : St)) (fun s X => VC48_l1 m K ret10v s.1 s.2 X) (s0 := ((0 : Int), (List.replicate (m.1).toNat (0 : Int)))) (fun s X1 h => ?_) h
    obtain ⟨v16, out⟩ := s
    have h : VC48_l1 m K ret10v v16 out X1 := h
    unfold VC48_l1 at h
    refine aw_seq ?_
    refine aw_region ?_
    refine awl_runp 1 [1, 3, 4, 15, 16, 17] [1, 13] (ob := (True ∧ True)) (st' := (⟨41, [(1, [], .v (.c (.ptr 1 0))), (3, [], .v (.c (.p (.mp (.pr (.int .i64) (.int .i64)) (.int .i64)) ret10v))), (4, [], .v (.c (.own 13))), (15, [], .v (.c (.p (.int .i64) ((List.replicate (m.1).toNat (0 : Int)).length : Int)))), (16, [], .v (.c (.p (.int .i64) v16))), (17, [], .v (.c (.p .bool (decide (v16 < ((List.replicate (m.1).toNat (0 : Int)).length : Int))))))], [(1, [], .box [.p (.int .i64) m.1, .p (.int .i64) m.2.1, .p (.sl (.sl (.int .i64))) m.2.2.1, .p (.int .i64) m.2.2.2.1, .p (.int .u32) m.2.2.2.2]), (13, [], .arr 3 (.int .i64) out)]⟩ : St)) (by kernel_rfl) ⟨trivial, trivial⟩ ?_
    refine awl_nil ?_
    refine thenQ_n ?_
    refine aw_seq ?_
    refine aw_cond (b := (decide (v16 < ((List.replicate (m.1).toNat (0 : Int)).length : Int)))) (by kernel_rfl) (fun hb => ?_) (fun hb => ?_)
    · have h := h.1 hb
      refine aw_skip ?_
      refine thenQ_n ?_
      refine aw_seq ?_
      refine aw_block ?_
      refine aw_seq ?_
      refine aw_region ?_
      refine awl_runp 2 [1, 3, 4, 5, 15, 16] [1, 13] (ob := (True ∧ True ∧ True)) (st' := (⟨41, [(1, [], .v (.c (.ptr 1 0))), (3, [], .v (.c (.p (.mp (.pr (.int .i64) (.int .i64)) (.int .i64)) ret10v))), (4, [], .v (.c (.own 13))), (5, [], .v (.c (.p (.int .i64) v16))), (15, [], .v (.c (.p (.int .i64) ((List.replicate (m.1).toNat (0 : Int)).length : Int)))), (16, [], .v (.c (.p (.int .i64) v16)))], [(1, [], .box [.p (.int .i64) m.1, .p (.int .i64) m.2.1, .p (.sl (.sl (.int .i64))) m.2.2.1, .p (.int .i64) m.2.2.2.1, .p (.int .u32) m.2.2.2.2]), (13, [], .arr 3 (.int .i64) out)]⟩ : St)) (by kernel_rfl) ⟨trivial, trivial, trivial⟩ ?_
      refine awl_nil ?_
      refine thenQ_n ?_
      refine aw_seq ?_
      refine aw_region ?_
      refine awl_runp 3 [1, 3, 4, 5, 15, 16, 20, 21] [1, 13] (ob := (True ∧ True ∧ True ∧ True)) (st' := (⟨41, [(1, [], .v (.c (.ptr 1 0))), (3, [], .v (.c (.p (.mp (.pr (.int .i64) (.int .i64)) (.int .i64)) ret10v))), (4, [], .v (.c (.own 13))), (5, [], .v (.c (.p (.int .i64) v16))), (15, [], .v (.c (.p (.int .i64) ((List.replicate (m.1).toNat (0 : Int)).length : Int)))), (16, [], .v (.c (.p (.int .i64) v16))), (20, [], .v (.c (.p (.int .i64) m.1))), (21, [], .v (.c (.p (.int .i64) (0 : Int))))], [(1, [], .box [.p (.int .i64) m.1, .p (.int .i64) m.2.1, .p (.sl (.sl (.int .i64))) m.2.2.1, .p (.int .i64) m.2.2.2.1, .p (.int .u32) m.2.2.2.2]), (13, [], .arr 3 (.int .i64) out)]⟩ : St)) (by kernel_rfl) ⟨trivial, trivial, trivial, trivial⟩ ?_
      refine awl_nil ?_
      refine thenQ_n ?_
      refine withJoin (σ := (List Int)) (fun s => (⟨41, [(1, [], .v (.c (.ptr 1 0))), (3, [], .v (.c (.p (.mp (.pr (.int .i64) (.int .i64)) (.int .i64)) ret10v))), (4, [], .v (.c (.own 13))), (15, [], .v (.c (.p (.int .i64) ((List.replicate (m.1).toNat (0 : Int)).length : Int)))), (16, [], .v (.c (.p (.int .i64) v16)))], [(1, [], .box [.p (.int .i64) m.1, .p (.int .i64) m.2.1, .p (.sl (.sl (.int .i64))) m.2.2.1, .p (.int .i64) m.2.2.2.1, .p (.int .u32) m.2.2.2.2]), (13, [], .arr 3 (.int .i64) s)]⟩ : St)) (fun s => VC48_k2 v16 X1 s) (fun out2 h => ?_) (fun rest2 => ?_)
      · have h : VC48_k2 v16 X1 out2 := h
        unfold VC48_k2 at h
        refine blockQ_n ?_
        refine thenQ_n ?_
        refine aw_region ?_
        obtain ⟨o1, h⟩ := h
        refine awl_runp 2 [1, 3, 4, 15, 16] [1, 13] (ob := (InR (v16 + (1 : Int)) ∧ True ∧ True)) (st' := (⟨41, [(1, [], .v (.c (.ptr 1 0))), (3, [], .v (.c (.p (.mp (.pr (.int .i64) (.int .i64)) (.int .i64)) ret10v))), (4, [], .v (.c (.own 13))), (15, [], .v (.c (.p (.int .i64) ((List.replicate (m.1).toNat (0 : Int)).length : Int)))), (16, [], .v (.c (.p (.int .i64) (v16 + (1 : Int)))))], [(1, [], .box [.p (.int .i64) m.1, .p (.int .i64) m.2.1, .p (.sl (.sl (.int .i64))) m.2.2.1, .p (.int .i64) m.2.2.2.1, .p (.int .u32) m.2.2.2.2]), (13, [], .arr 3 (.int .i64) out2)]⟩ : St)) (by kernel_rfl) ⟨o1, trivial, trivial⟩ ?_
        refine awl_nil ?_
        exact thenQ_n ⟨((v16 + (1 : Int)), out2), rfl, h⟩
      · refine aw_block ?_
        refine aw_loop (σ := Int) (fun s => (⟨41, [(1, [], .v (.c (.ptr 1 0))), (3, [], .v (.c (.p (.mp (.pr (.int .i64) (.int .i64)) (.int .i64)) ret10v))), (4, [], .v (.c (.own 13))), (5, [], .v (.c (.p (.int .i64) v16))), (15, [], .v (.c (.p (.int .i64) ((List.replicate (m.1).toNat (0 : Int)).length : Int)))), (16, [], .v (.c (.p (.int .i64) v16))), (20, [], .v (.c (.p (.int .i64) m.1))), (21, [], .v (.c (.p (.int .i64) s)))], [(1, [], .box [.p (.int .i64) m.1, .p (.int .i64) m.2.1, .p (.sl (.sl (.int .i64))) m.2.2.1, .p (.int .i64) m.2.2.2.1, .p (.int .u32) m.2.2.2.2]), (13, [], .arr 3 (.int .i64) out)]⟩ : St)) (fun s X => VC48_l2 m ret10v v16 out X1 s X) (s0 := (0 : Int)) (fun v21 X2 h => ?_) h
        have h : VC48_l2 m ret10v v16 out X1 v21 X2 := h
        unfold VC48_l2 at h
        refine aw_seq ?_
        refine aw_region ?_
        refine awl_runp 1 [1, 3, 4, 5, 15, 16, 20, 21, 22] [1, 13] (ob := (True ∧ True)) (st' := (⟨41, [(1, [], .v (.c (.ptr 1 0))), (3, [], .v (.c (.p (.mp (.pr (.int .i64) (.int .i64)) (.int .i64)) ret10v))), (4, [], .v (.c (.own 13))), (5, [], .v (.c (.p (.int .i64) v16))), (15, [], .v (.c (.p (.int .i64) ((List.replicate (m.1).toNat (0 : Int)).length : Int)))), (16, [], .v (.c (.p (.int .i64) v16))), (20, [], .v (.c (.p (.int .i64) m.1))), (21, [], .v (.c (.p (.int .i64) v21))), (22, [], .v (.c (.p .bool (decide (v21 < m.1)))))], [(1, [], .box [.p (.int .i64) m.1, .p (.int .i64) m.2.1, .p (.sl (.sl (.int .i64))) m.2.2.1, .p (.int .i64) m.2.2.2.1, .p (.int .u32) m.2.2.2.2]), (13, [], .arr 3 (.int .i64) out)]⟩ : St)) (by kernel_rfl) ⟨trivial, trivial⟩ ?_
        refine awl_nil ?_
        refine thenQ_n ?_
        refine aw_seq ?_
        refine aw_cond (b := (decide (v21 < m.1))) (by kernel_rfl) (fun hb => ?_) (fun hb => ?_)
        · have h := h.1 hb
          refine aw_skip ?_
          refine thenQ_n ?_
          refine aw_seq ?_
          refine aw_block ?_
          refine aw_seq ?_
          refine aw_region ?_
          refine awl_runp 2 [1, 3, 4, 5, 6, 15, 16, 20, 21] [1, 13] (ob := (True ∧ True ∧ True)) (st' := (⟨41, [(1, [], .v (.c (.ptr 1 0))), (3, [], .v (.c (.p (.mp (.pr (.int .i64) (.int .i64)) (.int .i64)) ret10v))), (4, [], .v (.c (.own 13))), (5, [], .v (.c (.p (.int .i64) v16))), (6, [], .v (.c (.p (.int .i64) v21))), (15, [], .v (.c (.p (.int .i64) ((List.replicate (m.1).toNat (0 : Int)).length : Int)))), (16, [], .v (.c (.p (.int .i64) v16))), (20, [], .v (.c (.p (.int .i64) m.1))), (21, [], .v (.c (.p (.int .i64) v21)))], [(1, [], .box [.p (.int .i64) m.1, .p (.int .i64) m.2.1, .p (.sl (.sl (.int .i64))) m.2.2.1, .p (.int .i64) m.2.2.2.1, .p (.int .u32) m.2.2.2.2]), (13, [], .arr 3 (.int .i64) out)]⟩ : St)) (by kernel_rfl) ⟨trivial, trivial, trivial⟩ ?_
          refine awl_nil ?_
          refine thenQ_n ?_
          refine aw_seq ?_
          refine aw_region ?_
          refine awl_runp 10 [1, 3, 4, 5, 6, 8, 15, 16, 20, 21] [1, 13] (ob := (True ∧ True ∧ True ∧ True ∧ True ∧ True ∧ True ∧ True ∧ True ∧ True ∧ True)) (st' := (⟨41, [(1, [], .v (.c (.ptr 1 0))), (3, [], .v (.c (.p (.mp (.pr (.int .i64) (.int .i64)) (.int .i64)) ret10v))), (4, [], .v (.c (.own 13))), (5, [], .v (.c (.p (.int .i64) v16))), (6, [], .v (.c (.p (.int .i64) v21))), (8, [], .v (.c (.p .bool ((mget ret10v (v16, v21)).isSome)))), (15, [], .v (.c (.p (.int .i64) ((List.replicate (m.1).toNat (0 : Int)).length : Int)))), (16, [], .v (.c (.p (.int .i64) v16))), (20, [], .v (.c (.p (.int .i64) m.1))), (21, [], .v (.c (.p (.int .i64) v21)))], [(1, [], .box [.p (.int .i64) m.1, .p (.int .i64) m.2.1, .p (.sl (.sl (.int .i64))) m.2.2.1, .p (.int .i64) m.2.2.2.1, .p (.int .u32) m.2.2.2.2]), (13, [], .arr 3 (.int .i64) out)]⟩ : St)) (by kernel_rfl) ⟨trivial, trivial, trivial, trivial, trivial, trivial, trivial, trivial, trivial, trivial, trivial⟩ ?_
          refine awl_nil ?_
          refine thenQ_n ?_
          refine aw_seq ?_
          refine aw_region ?_
          refine awl_runp 2 [1, 3, 4, 5, 6, 15, 16, 20, 21, 33] [1, 13] (ob := (True ∧ True ∧ True)) (st' := (⟨41, [(1, [], .v (.c (.ptr 1 0))), (3, [], .v (.c (.p (.mp (.pr (.int .i64) (.int .i64)) (.int .i64)) ret10v))), (4, [], .v (.c (.own 13))), (5, [], .v (.c (.p (.int .i64) v16))), (6, [], .v (.c (.p (.int .i64) v21))), (15, [], .v (.c (.p (.int .i64) ((List.replicate (m.1).toNat (0 : Int)).length : Int)))), (16, [], .v (.c (.p (.int .i64) v16))), (20, [], .v (.c (.p (.int .i64) m.1))), (21, [], .v (.c (.p (.int .i64) v21))), (33, [], .v (.c (.p .bool (!(mget ret10v (v16, v21)).isSome))))], [(1, [], .box [.p (.int .i64) m.1, .p (.int .i64) m.2.1, .p (.sl (.sl (.int .i64))) m.2.2.1, .p (.int .i64) m.2.2.2.1, .p (.int .u32) m.2.2.2.2]), (13, [], .arr 3 (.int .i64) out)]⟩ : St)) (by kernel_rfl) ⟨trivial, trivial, trivial⟩ ?_
          refine awl_nil ?_
          refine thenQ_n ?_
          refine aw_cond (b := (!(mget ret10v (v16, v21)).isSome)) (by kernel_rfl) (fun hb => ?_) (fun hb => ?_)
          · have h := h.1 hb
            refine aw_seq ?_
            refine aw_region ?_
            obtain ⟨o1, h⟩ := h
            refine awl_runp 5 [1, 3, 4, 15, 16] [1, 13] (ob := (True ∧ True ∧ True ∧ inIdx v16 out.length ∧ True ∧ True)) (st' := (⟨41, [(1, [], .v (.c (.ptr 1 0))), (3, [], .v (.c (.p (.mp (.pr (.int .i64) (.int .i64)) (.int .i64)) ret10v))), (4, [], .v (.c (.own 13))), (15, [], .v (.c (.p (.int .i64) ((List.replicate (m.1).toNat (0 : Int)).length : Int)))), (16, [], .v (.c (.p (.int .i64) v16)))], [(1, [], .box [.p (.int .i64) m.1, .p (.int .i64) m.2.1, .p (.sl (.sl (.int .i64))) m.2.2.1, .p (.int .i64) m.2.2.2.1, .p (.int .u32) m.2.2.2.2]), (13, [], .arr 3 (.int .i64) (out.set ((v16).toNat) v21))]⟩ : St)) (by kernel_rfl) ⟨trivial, trivial, trivial, o1, trivial, trivial⟩ ?_
            refine awl_nil ?_
            refine thenQ_n ?_
            refine aw_exit ?_
            refine blockQ_miss rfl ?_
            refine thenQ_x ?_
            refine thenQ_x ?_
            refine blockQ_hit ?_
            exact rest2 (out.set ((v16).toNat) v21) h
          · have h := h.2 hb
            refine aw_skip ?_
            refine blockQ_n ?_
            refine thenQ_n ?_
            refine aw_region ?_
            obtain ⟨o1, h⟩ := h
            refine awl_runp 2 [1, 3, 4, 5, 15, 16, 20, 21] [1, 13] (ob := (InR (v21 + (1 : Int)) ∧ True ∧ True)) (st' := (⟨41, [(1, [], .v (.c (.ptr 1 0))), (3, [], .v (.c (.p (.mp (.pr (.int .i64) (.int .i64)) (.int .i64)) ret10v))), (4, [], .v (.c (.own 13))), (5, [], .v (.c (.p (.int .i64) v16))), (15, [], .v (.c (.p (.int .i64) ((List.replicate (m.1).toNat (0 : Int)).length : Int)))), (16, [], .v (.c (.p (.int .i64) v16))), (20, [], .v (.c (.p (.int .i64) m.1))), (21, [], .v (.c (.p (.int .i64) (v21 + (1 : Int)))))], [(1, [], .box [.p (.int .i64) m.1, .p (.int .i64) m.2.1, .p (.sl (.sl (.int .i64))) m.2.2.1, .p (.int .i64) m.2.2.2.1, .p (.int .u32) m.2.2.2.2]), (13, [], .arr 3 (.int .i64) out)]⟩ : St)) (by kernel_rfl) ⟨o1, trivial, trivial⟩ ?_
            refine awl_nil ?_
            exact thenQ_n ⟨(v21 + (1 : Int)), rfl, h⟩
        · have h := h.2 hb
          refine aw_conv [.prune [1, 3, 4, 15, 16] [1, 13]] (st' := (⟨41, [(1, [], .v (.c (.ptr 1 0))), (3, [], .v (.c (.p (.mp (.pr (.int .i64) (.int .i64)) (.int .i64)) ret10v))), (4, [], .v (.c (.own 13))), (15, [], .v (.c (.p (.int .i64) ((List.replicate (m.1).toNat (0 : Int)).length : Int)))), (16, [], .v (.c (.p (.int .i64) v16)))], [(1, [], .box [.p (.int .i64) m.1, .p (.int .i64) m.2.1, .p (.sl (.sl (.int .i64))) m.2.2.1, .p (.int .i64) m.2.2.2.1, .p (.int .u32) m.2.2.2.2]), (13, [], .arr 3 (.int .i64) out)]⟩ : St)) (by kernel_rfl) ?_
          refine aw_exit ?_
          refine thenQ_x ?_
          refine thenQ_x ?_
          refine blockQ_hit ?_
          exact rest2 out h
    · have h := h.2 hb
      refine aw_conv [.prune [4] [13]] (st' := (⟨41, [(4, [], .v (.c (.own 13)))], [(13, [], .arr 3 (.int .i64) out)]⟩ : St)) (by kernel_rfl) ?_
      refine aw_exit ?_
      refine thenQ_x ?_
      refine thenQ_x ?_
      refine blockQ_hit ?_
      exact rest1 out h

-- slices.Index[[]int,int]
def VC49_k1 (K : Int → Prop) : Prop :=
  K (-1 : Int)

def VC49_l1 (sv : (List Int)) (v : Int) (K : Int → Prop) (v8 : Int) (X1 : Int → Prop) : Prop :=
  (((decide (v8 < (sv.length : Int))) = true → (inIdx v8 sv.length ∧ (((decide (v = (sv.getD (v8).toNat (0 : Int)))) = true → K v8) ∧ ((decide (v = (sv.getD (v8).toNat (0 : Int)))) = false → (InR (v8 + (1 : Int)) ∧ X1 (v8 + (1 : Int))))))) ∧ ((decide (v8 < (sv.length : Int))) = false → VC49_k1 K))

def VC49 (sv : (List Int)) (v : Int) (K : Int → Prop) : Prop :=
  Loop (σ := Int) (fun s X => VC49_l1 sv v K s X) (0 : Int)

set_option maxHeartbeats 4000000 in
theorem link49 (sv : (List Int)) (v : Int) (K : Int → Prop) (h : VC49 sv v K) : ACalls Try.prog 49 [toV1 (.sl (.int .i64)) sv, toV1 (.int .i64) v] (fun res => ∃ y, res = (fun y => [toV1 (.int .i64) y]) y ∧ K y) := by
  refine acalls_of_aw [(.int .i64)] [.t 4] Try.func49 rfl rfl rfl ?_
  unfold VC49 at h
  refine aw_seq ?_
  refine aw_region ?_
  refine awl_runp 1 [0, 1] [] (ob := (True ∧ True)) (st' := (⟨19, [(0, [], .v (.c (.p (.sl (.int .i64)) sv))), (1, [], .v (.c (.p (.int .i64) v)))], []⟩ : St)) (by kernel_rfl) ⟨trivial, trivial⟩ ?_
  refine awl_nil ?_
  refine thenQ_n ?_
  refine aw_seq ?_
  refine aw_seq ?_
  refine aw_region ?_
  refine awl_runp 3 [0, 1, 7, 8] [] (ob := (True ∧ True ∧ True ∧ True)) (st' := (⟨19, [(0, [], .v (.c (.p (.sl (.int .i64)) sv))), (1, [], .v (.c (.p (.int .i64) v))), (7, [], .v (.c (.p (.int .i64) (sv.length : Int)))), (8, [], .v (.c (.p (.int .i64) (0 : Int))))], []⟩ : St)) (by kernel_rfl) ⟨trivial, trivial, trivial, trivial⟩ ?_
  refine awl_nil ?_
  refine thenQ_n ?_
  refine withJoin (σ := Unit) (fun s => (⟨19, [], []⟩ : St)) (fun s => VC49_k1 K) (fun s h => ?_) (fun rest1 => ?_)
  · have h : VC49_k1 K := h
    unfold VC49_k1 at h
    refine thenQ_n ?_
    refine aw_seq ?_
    refine aw_region ?_
    refine awl_runp 1 [4] [] (ob := (True ∧ True)) (st' := (⟨19, [(4, [], .v (.c (.p (.int .i64) (-1 : Int))))], []⟩ : St)) (by kernel_rfl) ⟨trivial, trivial⟩ ?_
    refine awl_nil ?_
    refine thenQ_n ?_
    refine aw_ret ?_
    exact retQ_r (σ := Int) (R := (fun y => [toV1 (.int .i64) y])) (ob := (True ∧ True)) (-1 : Int) (by kernel_rfl) ⟨trivial, trivial⟩ h
  · refine aw_block ?_
    refine aw_loop (σ := Int) (fun s => (⟨19, [(0, [], .v (.c (.p (.sl (.int .i64)) sv))), (1, [], .v (.c (.p (.int .i64) v))), (7, [], .v (.c (.p (.int .i64) (sv.length : Int)))), (8, [], .v (.c (.p (.int .i64) s)))], []⟩ : St)) (fun s X => VC49_l1 sv v K s X) (s0 := (0 : Int)) (fun v8 X1 h => ?_) h
    have h : VC49_l1 sv v K v8 X1 := h
    unfold VC49_l1 at h
    refine aw_seq ?_
    refine aw_region ?_
    refine awl_runp 1 [0, 1, 7, 8, 9] [] (ob := (True ∧ True)) (st' := (⟨19, [(0, [], .v (.c (.p (.sl (.int .i64)) sv))), (1, [], .v (.c (.p (.int .i64) v))), (7, [], .v (.c (.p (.int .i64) (sv.length : Int)))), (8, [], .v (.c (.p (.int .i64) v8))), (9, [], .v (.c (.p .bool (decide (v8 < (sv.length : Int))))))], []⟩ : St)) (by kernel_rfl) ⟨trivial, trivial⟩ ?_
    refine awl_nil ?_
    refine thenQ_n ?_
    refine aw_seq ?_
    refine aw_cond (b := (decide (v8 < (sv.length : Int)))) (by kernel_rfl) (fun hb => ?_) (fun hb => ?_)
    · have h := h.1 hb
      refine aw_skip ?_
      refine thenQ_n ?_
      refine aw_seq ?_
      refine aw_block ?_
      refine aw_seq ?_
      refine aw_region ?_
      refine awl_runp 2 [0, 1, 5, 7, 8] [] (ob := (True ∧ True ∧ True)) (st' := (⟨19, [(0, [], .v (.c (.p (.sl (.int .i64)) sv))), (1, [], .v (.c (.p (.int .i64) v))), (5, [], .v (.c (.p (.int .i64) v8))), (7, [], .v (.c (.p (.int .i64) (sv.length : Int)))), (8, [], .v (.c (.p (.int .i64) v8)))], []⟩ : St)) (by kernel_rfl) ⟨trivial, trivial, trivial⟩ ?_
      refine awl_nil ?_
      refine thenQ_n ?_
      refine aw_seq ?_
      refine aw_region ?_
      obtain ⟨o1, h⟩ := h
      refine awl_runp 6 [0, 1, 5, 7, 8, 16] [] (ob := (True ∧ True ∧ True ∧ inIdx v8 sv.length ∧ True ∧ True ∧ True)) (st' := (⟨19, [(0, [], .v (.c (.p (.sl (.int .i64)) sv))), (1, [], .v (.c (.p (.int .i64) v))), (5, [], .v (.c (.p (.int .i64) v8))), (7, [], .v (.c (.p (.int .i64) (sv.length : Int)))), (8, [], .v (.c (.p (.int .i64) v8))), (16, [], .v (.c (.p .bool (decide (v = (sv.getD (v8).toNat (0 : Int)))))))], []⟩ : St)) (by kernel_rfl) ⟨trivial, trivial, trivial, o1, trivial, trivial, trivial⟩ ?_
      refine awl_nil ?_
      refine thenQ_n ?_
      refine aw_cond (b := (decide (v = (sv.getD (v8).toNat (0 : Int))))) (by kernel_rfl) (fun hb => ?_) (fun hb => ?_)
      · have h := h.1 hb
        refine aw_seq ?_
        refine aw_region ?_
        refine awl_runp 2 [4] [] (ob := (True ∧ True ∧ True)) (st' := (⟨19, [(4, [], .v (.c (.p (.int .i64) v8)))], []⟩ : St)) (by kernel_rfl) ⟨trivial, trivial, trivial⟩ ?_
        refine awl_nil ?_
        refine thenQ_n ?_
        refine aw_ret ?_
        refine blockQ_r ?_
        refine thenQ_r ?_
        refine thenQ_r ?_
        refine blockQ_r ?_
        refine thenQ_r ?_
        exact retQ_r (σ := Int) (R := (fun y => [toV1 (.int .i64) y])) (ob := (True ∧ True)) v8 (by kernel_rfl) ⟨trivial, trivial⟩ h
      · have h := h.2 hb
        refine aw_skip ?_
        refine blockQ_n ?_
        refine thenQ_n ?_
        refine aw_region ?_
        obtain ⟨o1, h⟩ := h
        refine awl_runp 2 [0, 1, 7, 8] [] (ob := (InR (v8 + (1 : Int)) ∧ True ∧ True)) (st' := (⟨19, [(0, [], .v (.c (.p (.sl (.int .i64)) sv))), (1, [], .v (.c (.p (.int .i64) v))), (7, [], .v (.c (.p (.int .i64) (sv.length : Int)))), (8, [], .v (.c (.p (.int .i64) (v8 + (1 : Int)))))], []⟩ : St)) (by kernel_rfl) ⟨o1, trivial, trivial⟩ ?_
        refine awl_nil ?_
        exact thenQ_n ⟨(v8 + (1 : Int)), rfl, h⟩
    · have h := h.2 hb
      refine aw_conv [.prune [] []] (st' := (⟨19, [], []⟩ : St)) (by kernel_rfl) ?_
      refine aw_exit ?_
      refine thenQ_x ?_
      refine thenQ_x ?_
      refine blockQ_hit ?_
      exact rest1 () h

-- coppicer/least.Least
def VC25_k1 (m : (Int × (Int × ((List (List Int)) × (Int × Int))))) (K : (Int × (Int × ((List (List Int)) × (Int × Int)))) × Int → Prop) (out : Int) (found : (List Int)) (l6142 : (List (List Int))) : Prop :=
  K (((found.length : Int), (m.2.1, (l6142, ((0 : Int), out)))), (0 : Int))

def VC25_k3 (i : Int) (l6142 : (List (List Int))) (X1 : Int × Int × (List Int) × (List (List Int)) → Prop) (found2 : (List Int)) (row : (List Int)) (out2 : Int) : Prop :=
  (InR (i + (1 : Int)) ∧ X1 ((i + (1 : Int)), out2, found2, (l6142 ++ [row])))

def VC25_k2 (m : (Int × (Int × ((List (List Int)) × (Int × Int))))) (i : Int) (out : Int) (l6142 : (List (List Int))) (X1 : Int × Int × (List Int) × (List (List Int)) → Prop) (found2 : (List Int)) (row : (List Int)) : Prop :=
  (roomN (l6142.length + [row].length) ∧ (inIdx i found2.length ∧ VC42 m.2.2.2.2 (found2.getD ((i).toNat) (0 : Int)) (fun (ret86v : Bool) => ((ret86v = true → (0 ≤ i ∧ VC25_k3 i l6142 X1 found2 row (bOr .u32 out (bShl .u32 (1 : Int) i)))) ∧ (ret86v = false → VC25_k3 i l6142 X1 found2 row out)))))

def VC25_k4 (v41 : Int) (row : (List Int)) (X2 : Int × (List Int) × (List Int) → Prop) (n : Int) (found3 : (List Int)) : Prop :=
  (inIdx v41 row.length ∧ (InR (v41 + (1 : Int)) ∧ X2 ((v41 + (1 : Int)), found3, (row.set ((v41).toNat) n))))

def VC25_l2 (m : (Int × (Int × ((List (List Int)) × (Int × Int))))) (ret20v : (List Int)) (i : Int) (out : Int) (l6142 : (List (List Int))) (X1 : Int × Int × (List Int) × (List (List Int)) → Prop) (v41 : Int) (found2 : (List Int)) (row : (List Int)) (X2 : Int × (List Int) × (List Int) → Prop) : Prop :=
  (((decide (v41 < ((List.replicate (m.2.1).toNat (0 : Int)).length : Int))) = true → (inIdx i found2.length ∧ inIdx (found2.getD ((i).toNat) (0 : Int)) m.2.2.1.length ∧ inIdx v41 (m.2.2.1.getD ((found2.getD ((i).toNat) (0 : Int))).toNat ([] : (List Int))).length ∧ inIdx ((m.2.2.1.getD ((found2.getD ((i).toNat) (0 : Int))).toNat ([] : (List Int))).getD (v41).toNat (0 : Int)) ret20v.length ∧ VC49 found2 (ret20v.getD (((m.2.2.1.getD ((found2.getD ((i).toNat) (0 : Int))).toNat ([] : (List Int))).getD (v41).toNat (0 : Int))).toNat (0 : Int)) (fun (ret60v : Int) => (((decide (ret60v < (0 : Int))) = true → (roomN (found2.length + [(ret20v.getD (((m.2.2.1.getD ((found2.getD ((i).toNat) (0 : Int))).toNat ([] : (List Int))).getD (v41).toNat (0 : Int))).toNat (0 : Int))].length) ∧ VC25_k4 v41 row X2 (found2.length : Int) (found2 ++ [(ret20v.getD (((m.2.2.1.getD ((found2.getD ((i).toNat) (0 : Int))).toNat ([] : (List Int))).getD (v41).toNat (0 : Int))).toNat (0 : Int))]))) ∧ ((decide (ret60v < (0 : Int))) = false → VC25_k4 v41 row X2 ret60v found2))))) ∧ ((decide (v41 < ((List.replicate (m.2.1).toNat (0 : Int)).length : Int))) = false → VC25_k2 m i out l6142 X1 found2 row))

def VC25_l1 (m : (Int × (Int × ((List (List Int)) × (Int × Int))))) (K : (Int × (Int × ((List (List Int)) × (Int × Int)))) × Int → Prop) (ret20v : (List Int)) (i : Int) (out : Int) (found : (List Int)) (l6142 : (List (List Int))) (X1 : Int × Int × (List Int) × (List (List Int)) → Prop) : Prop :=
  (((decide (i < (found.length : Int))) = true → (room m.2.1 ∧ Loop (σ := Int × (List Int) × (List Int)) (fun s X => VC25_l2 m ret20v i out l6142 X1 s.1 s.2.1 s.2.2 X) ((0 : Int), found, (List.replicate (m.2.1).toNat (0 : Int))))) ∧ ((decide (i < (found.length : Int))) = false → VC25_k1 m K out found l6142))

def VC25 (m : (Int × (Int × ((List (List Int)) × (Int × Int))))) (K : (Int × (Int × ((List (List Int)) × (Int × Int)))) × Int → Prop) : Prop :=
  VC40 m (fun (ret14v : Int) => (((!decide (ret14v = (0 : Int))) = true → K (((0 : Int), ((0 : Int), (([] : (List (List Int))), ((0 : Int), (0 : Int))))), ret14v)) ∧ ((!decide (ret14v = (0 : Int))) = false → VC48 m (fun (ret20v : (List Int)) => (inIdx m.2.2.2.1 ret20v.length ∧ Loop (σ := Int × Int × (List Int) × (List (List Int))) (fun s X => VC25_l1 m K ret20v s.1 s.2.1 s.2.2.1 s.2.2.2 X) ((0 : Int), (0 : Int), [(ret20v.getD (m.2.2.2.1).toNat (0 : Int))], ([] : List (List Int))))))))

set_option maxHeartbeats 4000000 in
theorem link25 (m : (Int × (Int × ((List (List Int)) × (Int × Int))))) (K : (Int × (Int × ((List (List Int)) × (Int × Int)))) × Int → Prop) (h : VC25 m K) : ACalls Try.prog 25 [toV1 (.pr (.int .i64) (.pr (.int .i64) (.pr (.sl (.sl (.int .i64))) (.pr (.int .i64) (.int .u32))))) m] (fun res => ∃ y, res = (fun y => [toV1 (.pr (.int .i64) (.pr (.int .i64) (.pr (.sl (.sl (.int .i64))) (.pr (.int .i64) (.int .u32))))) y.1, toV1 (.int .i64) y.2]) y ∧ K y) := by
  refine acalls_of_aw [(.pr (.int .i64) (.pr (.int .i64) (.pr (.sl (.sl (.int .i64))) (.pr (.int .i64) (.int .u32))))), (.int .i64)] [.c 2 25, .t 3] Try.func25 rfl rfl rfl ?_
  unfold VC25 at h
  refine aw_seq ?_
  refine aw_region ?_
  refine awl_runp 3 [1, 2] [1, 2] (ob := (True ∧ True ∧ True ∧ True)) (st' := (⟨97, [(1, [], .v (.c (.ptr 1 0))), (2, [], .v (.c (.ptr 2 0)))], [(1, [], .box [.p (.int .i64) m.1, .p (.int .i64) m.2.1, .p (.sl (.sl (.int .i64))) m.2.2.1, .p (.int .i64) m.2.2.2.1, .p (.int .u32) m.2.2.2.2]), (2, [], .box [.p (.int .i64) (0 : Int), .p (.int .i64) (0 : Int), .nils, .p (.int .i64) (0 : Int), .p (.int .u32) (0 : Int)])]⟩ : St)) (by kernel_rfl) ⟨trivial, trivial, trivial, trivial⟩ ?_
  refine awl_nil ?_
  refine thenQ_n ?_
  refine aw_seq ?_
  refine aw_seq ?_
  refine aw_region ?_
  refine awl_runp 1 [1, 2, 13] [1, 2] (ob := (True ∧ True)) (st' := (⟨97, [(1, [], .v (.c (.ptr 1 0))), (2, [], .v (.c (.ptr 2 0))), (13, [], .v (.agg [.p (.int .i64) m.1, .p (.int .i64) m.2.1, .p (.sl (.sl (.int .i64))) m.2.2.1, .p (.int .i64) m.2.2.2.1, .p (.int .u32) m.2.2.2.2]))], [(1, [], .box [.p (.int .i64) m.1, .p (.int .i64) m.2.1, .p (.sl (.sl (.int .i64))) m.2.2.1, .p (.int .i64) m.2.2.2.1, .p (.int .u32) m.2.2.2.2]), (2, [], .box [.p (.int .i64) (0 : Int), .p (.int .i64) (0 : Int), .nils, .p (.int .i64) (0 : Int), .p (.int .u32) (0 : Int)])]⟩ : St)) (by kernel_rfl) ⟨trivial, trivial⟩ ?_
  refine awl_callk (p := []) (l := [toV1 (.pr (.int .i64) (.pr (.int .i64) (.pr (.sl (.sl (.int .i64))) (.pr (.int .i64) (.int .u32))))) m]) (cl := []) false [.d (.pr (.int .i64) (.pr (.int .i64) (.pr (.sl (.sl (.int .i64))) (.pr (.int .i64) (.int .u32)))))] [1, 2, 14] [1, 2] (fun (ret14v : Int) => (((!decide (ret14v = (0 : Int))) = true → K (((0 : Int), ((0 : Int), (([] : (List (List Int))), ((0 : Int), (0 : Int))))), ret14v)) ∧ ((!decide (ret14v = (0 : Int))) = false → VC48 m (fun (ret20v : (List Int)) => (inIdx m.2.2.2.1 ret20v.length ∧ Loop (σ := Int × Int × (List Int) × (List (List Int))) (fun s X => VC25_l1 m K ret20v s.1 s.2.1 s.2.2.1 s.2.2.2 X) ((0 : Int), (0 : Int), [(ret20v.getD (m.2.2.2.1).toNat (0 : Int))], ([] : List (List Int)))))))) (fun ret14v => [toV1 (.int .i64) ret14v]) (fun ret14v => (⟨97, [(1, [], .v (.c (.ptr 1 0))), (2, [], .v (.c (.ptr 2 0))), (14, [], .v (.c (.p (.int .i64) ret14v)))], [(1, [], .box [.p (.int .i64) m.1, .p (.int .i64) m.2.1, .p (.sl (.sl (.int .i64))) m.2.2.1, .p (.int .i64) m.2.2.2.1, .p (.int .u32) m.2.2.2.2]), (2, [], .box [.p (.int .i64) (0 : Int), .p (.int .i64) (0 : Int), .nils, .p (.int .i64) (0 : Int), .p (.int .u32) (0 : Int)])]⟩ : St)) (by kernel_rfl) rfl (by kernel_rfl) rfl (by kernel_rfl) Try.call40 (by kernel_rfl) (fun ret14v => by kernel_rfl) (fun e => by cases e) (fun hg => link40 m _ h) (fun hg => noF hg) (fun ret14v h => ?_)
  have h : (((!decide (ret14v = (0 : Int))) = true → K (((0 : Int), ((0 : Int), (([] : (List (List Int))), ((0 : Int), (0 : Int))))), ret14v)) ∧ ((!decide (ret14v = (0 : Int))) = false → VC48 m (fun (ret20v : (List Int)) => (inIdx m.2.2.2.1 ret20v.length ∧ Loop (σ := Int × Int × (List Int) × (List (List Int))) (fun s X => VC25_l1 m K ret20v s.1 s.2.1 s.2.2.1 s.2.2.2 X) ((0 : Int), (0 : Int), [(ret20v.getD (m.2.2.2.1).toNat (0 : Int))], ([] : List (List Int))))))) := h
  refine awl_runp 1 [1, 2, 4] [1, 2] (ob := (True ∧ True)) (st' := (⟨97, [(1, [], .v (.c (.ptr 1 0))), (2, [], .v (.c (.ptr 2 0))), (4, [], .v (.c (.p (.int .i64) ret14v)))], [(1, [], .box [.p (.int .i64) m.1, .p (.int .i64) m.2.1, .p (.sl (.sl (.int .i64))) m.2.2.1, .p (.int .i64) m.2.2.2.1, .p (.int .u32) m.2.2.2.2]), (2, [], .box [.p (.int .i64) (0 : Int), .p (.int .i64) (0 : Int), .nils, .p (.int .i64) (0 : Int), .p (.int .u32) (0 : Int)])]⟩ : St)) (by kernel_rfl) ⟨trivial, trivial⟩ ?_
  refine awl_nil ?_
  refine thenQ_n ?_
  refine aw_seq ?_
  refine aw_region ?_
  refine awl_runp 2 [1, 2, 4, 16] [1, 2] (ob := (True ∧ True ∧ True)) (st' := (⟨97, [(1, [], .v (.c (.ptr 1 0))), (2, [], .v (.c (.ptr 2 0))), (4, [], .v (.c (.p (.int .i64) ret14v))), (16, [], .v (.c (.p .bool (!decide (ret14v = (0 : Int))))))], [(1, [], .box [.p (.int .i64) m.1, .p (.int .i64) m.2.1, .p (.sl (.sl (.int .i64))) m.2.2.1, .p (.int .i64) m.2.2.2.1, .p (.int .u32) m.2.2.2.2]), (2, [], .box [.p (.int .i64) (0 : Int), .p (.int .i64) (0 : Int), .nils, .p (.int .i64) (0 : Int), .p (.int .u32) (0 : Int)])]⟩ : St)) (by kernel_rfl) ⟨trivial, trivial, trivial⟩ ?_
  refine awl_nil ?_
  refine thenQ_n ?_
  refine aw_cond (b := (!decide (ret14v = (0 : Int)))) (by kernel_rfl) (fun hb => ?_) (fun hb => ?_)
  · have h := h.1 hb
    refine aw_seq ?_
    refine aw_region ?_
    refine awl_runp 4 [2, 3] [2] (ob := (True ∧ True ∧ True ∧ True ∧ True)) (st' := (⟨97, [(2, [], .v (.c (.ptr 2 0))), (3, [], .v (.c (.p (.int .i64) ret14v)))], [(2, [], .box [.p (.int .i64) (0 : Int), .p (.int .i64) (0 : Int), .nils, .p (.int .i64) (0 : Int), .p (.int .u32) (0 : Int)])]⟩ : St)) (by kernel_rfl) ⟨trivial, trivial, trivial, trivial, trivial⟩ ?_
    refine awl_nil ?_
    refine thenQ_n ?_
    refine aw_ret ?_
    refine thenQ_r ?_
    exact retQ_r (σ := (Int × (Int × ((List (List Int)) × (Int × Int)))) × Int) (R := (fun y => [toV1 (.pr (.int .i64) (.pr (.int .i64) (.pr (.sl (.sl (.int .i64))) (.pr (.int .i64) (.int .u32))))) y.1, toV1 (.int .i64) y.2])) (ob := (True ∧ True ∧ True)) (((0 : Int), ((0 : Int), (([] : (List (List Int))), ((0 : Int), (0 : Int))))), ret14v) (by kernel_rfl) ⟨trivial, trivial, trivial⟩ h
  · have h := h.2 hb
    refine aw_skip ?_
    refine thenQ_n ?_
    refine aw_seq ?_
    refine aw_region ?_
    refine awl_runp 1 [1, 2, 19] [1, 2] (ob := (True ∧ True)) (st' := (⟨97, [(1, [], .v (.c (.ptr 1 0))), (2, [], .v (.c (.ptr 2 0))), (19, [], .v (.agg [.p (.int .i64) m.1, .p (.int .i64) m.2.1, .p (.sl (.sl (.int .i64))) m.2.2.1, .p (.int .i64) m.2.2.2.1, .p (.int .u32) m.2.2.2.2]))], [(1, [], .box [.p (.int .i64) m.1, .p (.int .i64) m.2.1, .p (.sl (.sl (.int .i64))) m.2.2.1, .p (.int .i64) m.2.2.2.1, .p (.int .u32) m.2.2.2.2]), (2, [], .box [.p (.int .i64) (0 : Int), .p (.int .i64) (0 : Int), .nils, .p (.int .i64) (0 : Int), .p (.int .u32) (0 : Int)])]⟩ : St)) (by kernel_rfl) ⟨trivial, trivial⟩ ?_
    refine awl_callk (p := []) (l := [toV1 (.pr (.int .i64) (.pr (.int .i64) (.pr (.sl (.sl (.int .i64))) (.pr (.int .i64) (.int .u32))))) m]) (cl := []) false [.d (.pr (.int .i64) (.pr (.int .i64) (.pr (.sl (.sl (.int .i64))) (.pr (.int .i64) (.int .u32)))))] [1, 2, 20] [1, 2] (fun (ret20v : (List Int)) => (inIdx m.2.2.2.1 ret20v.length ∧ Loop (σ := Int × Int × (List Int) × (List (List Int))) (fun s X => VC25_l1 m K ret20v s.1 s.2.1 s.2.2.1 s.2.2.2 X) ((0 : Int), (0 : Int), [(ret20v.getD (m.2.2.2.1).toNat (0 : Int))], ([] : List (List Int))))) (fun ret20v => [toV1 (.sl (.int .i64)) ret20v]) (fun ret20v => (⟨97, [(1, [], .v (.c (.ptr 1 0))), (2, [], .v (.c (.ptr 2 0))), (20, [], .v (.c (.p (.sl (.int .i64)) ret20v)))], [(1, [], .box [.p (.int .i64) m.1, .p (.int .i64) m.2.1, .p (.sl (.sl (.int .i64))) m.2.2.1, .p (.int .i64) m.2.2.2.1, .p (.int .u32) m.2.2.2.2]), (2, [], .box [.p (.int .i64) (0 : Int), .p (.int .i64) (0 : Int), .nils, .p (.int .i64) (0 : Int), .p (.int .u32) (0 : Int)])]⟩ : St)) (by kernel_rfl) rfl (by kernel_rfl) rfl (by kernel_rfl) Try.call48 (by kernel_rfl) (fun ret20v => by kernel_rfl) (fun e => by cases e) (fun hg => link48 m _ h) (fun hg => noF hg) (fun ret20v h => ?_)
    have h : (inIdx m.2.2.2.1 ret20v.length ∧ Loop (σ := Int × Int × (List Int) × (List (List Int))) (fun s X => VC25_l1 m K ret20v s.1 s.2.1 s.2.2.1 s.2.2.2 X) ((0 : Int), (0 : Int), [(ret20v.getD (m.2.2.2.1).toNat (0 : Int))], ([] : List (List Int)))) := h
    refine awl_runp 1 [1, 2, 5] [1, 2] (ob := (True ∧ True)) (st' := (⟨97, [(1, [], .v (.c (.ptr 1 0))), (2, [], .v (.c (.ptr 2 0))), (5, [], .v (.c (.p (.sl (.int .i64)) ret20v)))], [(1, [], .box [.p (.int .i64) m.1, .p (.int .i64) m.2.1, .p (.sl (.sl (.int .i64))) m.2.2.1, .p (.int .i64) m.2.2.2.1, .p (.int .u32) m.2.2.2.2]), (2, [], .box [.p (.int .i64) (0 : Int), .p (.int .i64) (0 : Int), .nils, .p (.int .i64) (0 : Int), .p (.int .u32) (0 : Int)])]⟩ : St)) (by kernel_rfl) ⟨trivial, trivial⟩ ?_
    refine awl_nil ?_
    refine thenQ_n ?_
    refine aw_seq ?_
    refine aw_region ?_
    obtain ⟨o1, h⟩ := h
    refine awl_runp 7 [1, 2, 5, 6] [1, 2, 26] (ob := (True ∧ True ∧ True ∧ inIdx m.2.2.2.1 ret20v.length ∧ True ∧ True ∧ True ∧ True)) (st' := (⟨97, [(1, [], .v (.c (.ptr 1 0))), (2, [], .v (.c (.ptr 2 0))), (5, [], .v (.c (.p (.sl (.int .i64)) ret20v))), (6, [], .v (.c (.own 26)))], [(1, [], .box [.p (.int .i64) m.1, .p (.int .i64) m.2.1, .p (.sl (.sl (.int .i64))) m.2.2.1, .p (.int .i64) m.2.2.2.1, .p (.int .u32) m.2.2.2.2]), (2, [], .box [.p (.int .i64) (0 : Int), .p (.int .i64) (0 : Int), .nils, .p (.int .i64) (0 : Int), .p (.int .u32) (0 : Int)]), (26, [], .arr 3 (.int .i64) [(ret20v.getD (m.2.2.2.1).toNat (0 : Int))])]⟩ : St)) (by kernel_rfl) ⟨trivial, trivial, trivial, o1, trivial, trivial, trivial, trivial⟩ ?_
    refine awl_nil ?_
    refine thenQ_n ?_
    refine aw_seq ?_
    refine aw_region ?_
    refine awl_runp 5 [1, 2, 5, 6, 7] [1, 2, 7, 26] (ob := (True ∧ True ∧ True ∧ True ∧ True ∧ True)) (st' := (⟨97, [(1, [], .v (.c (.ptr 1 0))), (2, [], .v (.c (.ptr 2 0))), (5, [], .v (.c (.p (.sl (.int .i64)) ret20v))), (6, [], .v (.c (.own 26))), (7, [], .v (.c (.ptr 7 0)))], [(1, [], .box [.p (.int .i64) m.1, .p (.int .i64) m.2.1, .p (.sl (.sl (.int .i64))) m.2.2.1, .p (.int .i64) m.2.2.2.1, .p (.int .u32) m.2.2.2.2]), (2, [], .box [.p (.int .i64) (0 : Int), .p (.int .i64) (0 : Int), .nils, .p (.int .i64) (0 : Int), .p (.int .u32) (0 : Int)]), (7, [], .box [.p (.int .i64) (0 : Int), .p (.int .i64) m.2.1, .nils, .p (.int .i64) (0 : Int), .p (.int .u32) (0 : Int)]), (26, [], .arr 3 (.int .i64) [(ret20v.getD (m.2.2.2.1).toNat (0 : Int))])]⟩ : St)) (by kernel_rfl) ⟨trivial, trivial, trivial, trivial, trivial, trivial⟩ ?_
    refine awl_nil ?_
    refine thenQ_n ?_
    refine aw_seq ?_
    refine aw_seq ?_
    refine aw_region ?_
    refine awl_runp 1 [1, 2, 5, 6, 7, 8] [1, 2, 7, 26] (ob := (True ∧ True)) (st' := (⟨97, [(1, [], .v (.c (.ptr 1 0))), (2, [], .v (.c (.ptr 2 0))), (5, [], .v (.c (.p (.sl (.int .i64)) ret20v))), (6, [], .v (.c (.own 26))), (7, [], .v (.c (.ptr 7 0))), (8, [], .v (.c (.p (.int .i64) (0 : Int))))], [(1, [], .box [.p (.int .i64) m.1, .p (.int .i64) m.2.1, .p (.sl (.sl (.int .i64))) m.2.2.1, .p (.int .i64) m.2.2.2.1, .p (.int .u32) m.2.2.2.2]), (2, [], .box [.p (.int .i64) (0 : Int), .p (.int .i64) (0 : Int), .nils, .p (.int .i64) (0 : Int), .p (.int .u32) (0 : Int)]), (7, [], .box [.p (.int .i64) (0 : Int), .p (.int .i64) m.2.1, .nils, .p (.int .i64) (0 : Int), .p (.int .u32) (0 : Int)]), (26, [], .arr 3 (.int .i64) [(ret20v.getD (m.2.2.2.1).toNat (0 : Int))])]⟩ : St)) (by kernel_rfl) ⟨trivial, trivial⟩ ?_
    refine awl_nil ?_
    refine thenQ_n ?_
    refine withJoin (σ := Int × (List Int) × (List (List Int))) (fun s => (⟨97, [(2, [], .v (.c (.ptr 2 0))), (6, [], .v (.c (.own 26))), (7, [], .v (.c (.ptr 7 0)))], [(2, [], .box [.p (.int .i64) (0 : Int), .p (.int .i64) (0 : Int), .nils, .p (.int .i64) (0 : Int), .p (.int .u32) (0 : Int)]), (7, [], .box [.p (.int .i64) (0 : Int), .p (.int .i64) m.2.1, .own 6142, .p (.int .i64) (0 : Int), .p (.int .u32) s.1]), (26, [], .arr 3 (.int .i64) s.2.1), (6142, [], .arr 26 (.sl (.int .i64)) s.2.2)]⟩ : St)) (fun s => VC25_k1 m K s.1 s.2.1 s.2.2) (fun s h => ?_) (fun rest1 => ?_)
    · obtain ⟨out, found, l6142⟩ := s
      have h : VC25_k1 m K out found l6142 := h
      unfold VC25_k1 at h
      refine thenQ_n ?_
      refine aw_seq ?_
      refine aw_region ?_
      refine awl_runp 4 [2, 7] [2, 7, 6142] (ob := (True ∧ True ∧ True ∧ True ∧ True)) (st' := (⟨97, [(2, [], .v (.c (.ptr 2 0))), (7, [], .v (.c (.ptr 7 0)))], [(2, [], .box [.p (.int .i64) (0 : Int), .p (.int .i64) (0 : Int), .nils, .p (.int .i64) (0 : Int), .p (.int .u32) (0 : Int)]), (7, [], .box [.p (.int .i64) (found.length : Int), .p (.int .i64) m.2.1, .own 6142, .p (.int .i64) (0 : Int), .p (.int .u32) out]), (6142, [], .arr 26 (.sl (.int .i64)) l6142)]⟩ : St)) (by kernel_rfl) ⟨trivial, trivial, trivial, trivial, trivial⟩ ?_
      refine awl_nil ?_
      refine thenQ_n ?_
      refine aw_seq ?_
      refine aw_region ?_
      refine awl_runp 3 [2, 3] [2, 6142] (ob := (True ∧ True ∧ True ∧ True)) (st' := (⟨97, [(2, [], .v (.c (.ptr 2 0))), (3, [], .v (.c (.p (.int .i64) (0 : Int))))], [(2, [], .box [.p (.int .i64) (found.length : Int), .p (.int .i64) m.2.1, .own 6142, .p (.int .i64) (0 : Int), .p (.int .u32) out]), (6142, [], .arr 26 (.sl (.int .i64)) l6142)]⟩ : St)) (by kernel_rfl) ⟨trivial, trivial, trivial, trivial⟩ ?_
      refine awl_nil ?_
      refine thenQ_n ?_
      refine aw_conv [.freeze 6142] (st' := (⟨97, [(2, [], .v (.c (.ptr 2 0))), (3, [], .v (.c (.p (.int .i64) (0 : Int))))], [(2, [], .box [.p (.int .i64) (found.length : Int), .p (.int .i64) m.2.1, .p (.sl (.sl (.int .i64))) l6142, .p (.int .i64) (0 : Int), .p (.int .u32) out])]⟩ : St)) (by kernel_rfl) ?_
      refine aw_ret ?_
      exact retQ_r (σ := (Int × (Int × ((List (List Int)) × (Int × Int)))) × Int) (R := (fun y => [toV1 (.pr (.int .i64) (.pr (.int .i64) (.pr (.sl (.sl (.int .i64))) (.pr (.int .i64) (.int .u32))))) y.1, toV1 (.int .i64) y.2])) (ob := (True ∧ True ∧ True)) (((found.length : Int), (m.2.1, (l6142, ((0 : Int), out)))), (0 : Int)) (by kernel_rfl) ⟨trivial, trivial, trivial⟩ h
    · refine aw_block ?_
      refine aw_conv [.nilOwnB 7 2 6142 26 (.sl (.int .i64)), .prune [1, 2, 5, 6, 7, 8] [1, 2, 7, 26, 6142]] (st' := (⟨97, [(1, [], .v (.c (.ptr 1 0))), (2, [], .v (.c (.ptr 2 0))), (5, [], .v (.c (.p (.sl (.int .i64)) ret20v))), (6, [], .v (.c (.own 26))), (7, [], .v (.c (.ptr 7 0))), (8, [], .v (.c (.p (.int .i64) (0 : Int))))], [(1, [], .box [.p (.int .i64) m.1, .p (.int .i64) m.2.1, .p (.sl (.sl (.int .i64))) m.2.2.1, .p (.int .i64) m.2.2.2.1, .p (.int .u32) m.2.2.2.2]), (2, [], .box [.p (.int .i64) (0 : Int), .p (.int .i64) (0 : Int), .nils, .p (.int .i64) (0 : Int), .p (.int .u32) (0 : Int)]), (7, [], .box [.p (.int .i64) (0 : Int), .p (.int .i64) m.2.1, .own 6142, .p (.int .i64) (0 : Int), .p (.int .u32) (0 : Int)]), (26, [], .arr 3 (.int .i64) [(ret20v.getD (m.2.2.2.1).toNat (0 : Int))]), (6142, [], .arr 26 (.sl (.int .i64)) ([] : List (List Int)))]⟩ : St)) (by kernel_rfl) ?_
      refine aw_loop (σ := Int × Int × (List Int) × (List (List Int))) (fun s => (⟨97, [(1, [], .v (.c (.ptr 1 0))), (2, [], .v (.c (.ptr 2 0))), (5, [], .v (.c (.p (.sl (.int .i64)) ret20v))), (6, [], .v (.c (.own 26))), (7, [], .v (.c (.ptr 7 0))), (8, [], .v (.c (.p (.int .i64) s.1)))], [(1, [], .box [.p (.int .i64) m.1, .p (.int .i64) m.2.1, .p (.sl (.sl (.int .i64))) m.2.2.1, .p (.int .i64) m.2.2.2.1, .p (.int .u32) m.2.2.2.2]), (2, [], .box [.p (.int .i64) (0 : Int), .p (.int .i64) (0 : Int), .nils, .p (.int .i64) (0 : Int), .p (.int .u32) (0 : Int)]), (7, [], .box [.p (.int .i64) (0 : Int), .p (.int .i64) m.2.1, .own 6142, .p (.int .i64) (0 : Int), .p (.int .u32) s.2.1]), (26, [], .arr 3 (.int .i64) s.2.2.1), (6142, [], .arr 26 (.sl (.int .i64)) s.2.2.2)]⟩ : St)) (fun s X => VC25_l1 m K ret20v s.1 s.2.1 s.2.2.1 s.2.2.2 X) (s0 := ((0 : Int), (0 : Int), [(ret20v.getD (m.2.2.2.1).toNat (0 : Int))], ([] : List (List Int)))) (fun s X1 h => ?_) h
      obtain ⟨i, out, found, l6142⟩ := s
      have h : VC25_l1 m K ret20v i out found l6142 X1 := h
      unfold VC25_l1 at h
      refine aw_seq ?_
      refine aw_seq ?_
      refine aw_region ?_
      refine awl_runp 4 [1, 2, 5, 6, 7, 8, 33] [1, 2, 7, 26, 6142] (ob := (True ∧ True ∧ True ∧ True ∧ True)) (st' := (⟨97, [(1, [], .v (.c (.ptr 1 0))), (2, [], .v (.c (.ptr 2 0))), (5, [], .v (.c (.p (.sl (.int .i64)) ret20v))), (6, [], .v (.c (.own 26))), (7, [], .v (.c (.ptr 7 0))), (8, [], .v (.c (.p (.int .i64) i))), (33, [], .v (.c (.p .bool (decide (i < (found.length : Int))))))], [(1, [], .box [.p (.int .i64) m.1, .p (.int .i64) m.2.1, .p (.sl (.sl (.int .i64))) m.2.2.1, .p (.int .i64) m.2.2.2.1, .p (.int .u32) m.2.2.2.2]), (2, [], .box [.p (.int .i64) (0 : Int), .p (.int .i64) (0 : Int), .nils, .p (.int .i64) (0 : Int), .p (.int .u32) (0 : Int)]), (7, [], .box [.p (.int .i64) (0 : Int), .p (.int .i64) m.2.1, .own 6142, .p (.int .i64) (0 : Int), .p (.int .u32) out]), (26, [], .arr 3 (.int .i64) found), (6142, [], .arr 26 (.sl (.int .i64)) l6142)]⟩ : St)) (by kernel_rfl) ⟨trivial, trivial, trivial, trivial, trivial⟩ ?_
      refine awl_nil ?_
      refine thenQ_n ?_
      refine aw_cond (b := (decide (i < (found.length : Int)))) (by kernel_rfl) (fun hb => ?_) (fun hb => ?_)
      · have h := h.1 hb
        refine aw_skip ?_
        refine thenQ_n ?_
        refine aw_seq ?_
        refine aw_block ?_
        refine aw_seq ?_
        refine aw_region ?_
        obtain ⟨o1, h⟩ := h
        refine awl_runp 4 [1, 2, 5, 6, 7, 8, 9] [1, 2, 7, 26, 38, 6142] (ob := (True ∧ True ∧ room m.2.1 ∧ True ∧ True)) (st' := (⟨97, [(1, [], .v (.c (.ptr 1 0))), (2, [], .v (.c (.ptr 2 0))), (5, [], .v (.c (.p (.sl (.int .i64)) ret20v))), (6, [], .v (.c (.own 26))), (7, [], .v (.c (.ptr 7 0))), (8, [], .v (.c (.p (.int .i64) i))), (9, [], .v (.c (.own 38)))], [(1, [], .box [.p (.int .i64) m.1, .p (.int .i64) m.2.1, .p (.sl (.sl (.int .i64))) m.2.2.1, .p (.int .i64) m.2.2.2.1, .p (.int .u32) m.2.2.2.2]), (2, [], .box [.p (.int .i64) (0 : Int), .p (.int .i64) (0 : Int), .nils, .p (.int .i64) (0 : Int), .p (.int .u32) (0 : Int)]), (7, [], .box [.p (.int .i64) (0 : Int), .p (.int .i64) m.2.1, .own 6142, .p (.int .i64) (0 : Int), .p (.int .u32) out]), (26, [], .arr 3 (.int .i64) found), (38, [], .arr 3 (.int .i64) (List.replicate (m.2.1).toNat (0 : Int))), (6142, [], .arr 26 (.sl (.int .i64)) l6142)]⟩ : St)) (by kernel_rfl) ⟨trivial, trivial, o1, trivial, trivial⟩ ?_
        refine awl_nil ?_
        refine thenQ_n ?_
        refine aw_seq ?_
        refine aw_seq ?_
        refine aw_region ?_
        refine awl_runp 3 [1, 2, 5, 6, 7, 8, 9, 40, 41] [1, 2, 7, 26, 38, 6142] (ob := (True ∧ True ∧ True ∧ True)) (st' := (⟨97, [(1, [], .v (.c (.ptr 1 0))), (2, [], .v (.c (.ptr 2 0))), (5, [], .v (.c (.p (.sl (.int .i64)) ret20v))), (6, [], .v (.c (.own 26))), (7, [], .v (.c (.ptr 7 0))), (8, [], .v (.c (.p (.int .i64) i))), (9, [], .v (.c (.own 38))), (40, [], .v (.c (.p (.int .i64) ((List.replicate (m.2.1).toNat (0 : Int)).length : Int)))), (41, [], .v (.c (.p (.int .i64) (0 : Int))))], [(1, [], .box [.p (.int .i64) m.1, .p (.int .i64) m.2.1, .p (.sl (.sl (.int .i64))) m.2.2.1, .p (.int .i64) m.2.2.2.1, .p (.int .u32) m.2.2.2.2]), (2, [], .box [.p (.int .i64) (0 : Int), .p (.int .i64) (0 : Int), .nils, .p (.int .i64) (0 : Int), .p (.int .u32) (0 : Int)]), (7, [], .box [.p (.int .i64) (0 : Int), .p (.int .i64) m.2.1, .own 6142, .p (.int .i64) (0 : Int), .p (.int .u32) out]), (26, [], .arr 3 (.int .i64) found), (38, [], .arr 3 (.int .i64) (List.replicate (m.2.1).toNat (0 : Int))), (6142, [], .arr 26 (.sl (.int .i64)) l6142)]⟩ : St)) (by kernel_rfl) ⟨trivial, trivial, trivial, trivial⟩ ?_
        refine awl_nil ?_
        refine thenQ_n ?_
        refine withJoin (σ := (List Int) × (List Int)) (fun s => (⟨97, [(1, [], .v (.c (.ptr 1 0))), (2, [], .v (.c (.ptr 2 0))), (5, [], .v (.c (.p (.sl (.int .i64)) ret20v))), (6, [], .v (.c (.own 26))), (7, [], .v (.c (.ptr 7 0))), (8, [], .v (.c (.p (.int .i64) i))), (9, [], .v (.c (.own 38)))], [(1, [], .box [.p (.int .i64) m.1, .p (.int .i64) m.2.1, .p (.sl (.sl (.int .i64))) m.2.2.1, .p (.int .i64) m.2.2.2.1, .p (.int .u32) m.2.2.2.2]), (2, [], .box [.p (.int .i64) (0 : Int), .p (.int .i64) (0 : Int), .nils, .p (.int .i64) (0 : Int), .p (.int .u32) (0 : Int)]), (7, [], .box [.p (.int .i64) (0 : Int), .p (.int .i64) m.2.1, .own 6142, .p (.int .i64) (0 : Int), .p (.int .u32) out]), (26, [], .arr 3 (.int .i64) s.1), (38, [], .arr 3 (.int .i64) s.2), (6142, [], .arr 26 (.sl (.int .i64)) l6142)]⟩ : St)) (fun s => VC25_k2 m i out l6142 X1 s.1 s.2) (fun s h => ?_) (fun rest3 => ?_)
        · obtain ⟨found2, row⟩ := s
          have h : VC25_k2 m i out l6142 X1 found2 row := h
          unfold VC25_k2 at h
          refine thenQ_n ?_
          refine aw_seq ?_
          refine aw_region ?_
          refine awl_runp 3 [1, 2, 5, 6, 7, 8, 75, 76] [1, 2, 7, 26, 38, 6142] (ob := (True ∧ True ∧ True ∧ True)) (st' := (⟨97, [(1, [], .v (.c (.ptr 1 0))), (2, [], .v (.c (.ptr 2 0))), (5, [], .v (.c (.p (.sl (.int .i64)) ret20v))), (6, [], .v (.c (.own 26))), (7, [], .v (.c (.ptr 7 0))), (8, [], .v (.c (.p (.int .i64) i))), (75, [], .v (.c (.own 6142))), (76, [], .v (.c (.own 38)))], [(1, [], .box [.p (.int .i64) m.1, .p (.int .i64) m.2.1, .p (.sl (.sl (.int .i64))) m.2.2.1, .p (.int .i64) m.2.2.2.1, .p (.int .u32) m.2.2.2.2]), (2, [], .box [.p (.int .i64) (0 : Int), .p (.int .i64) (0 : Int), .nils, .p (.int .i64) (0 : Int), .p (.int .u32) (0 : Int)]), (7, [], .box [.p (.int .i64) (0 : Int), .p (.int .i64) m.2.1, .own 6142, .p (.int .i64) (0 : Int), .p (.int .u32) out]), (26, [], .arr 3 (.int .i64) found2), (38, [], .arr 3 (.int .i64) row), (6142, [], .arr 26 (.sl (.int .i64)) l6142)]⟩ : St)) (by kernel_rfl) ⟨trivial, trivial, trivial, trivial⟩ ?_
          refine awl_conv [.freeze 38] (st' := (⟨97, [(1, [], .v (.c (.ptr 1 0))), (2, [], .v (.c (.ptr 2 0))), (5, [], .v (.c (.p (.sl (.int .i64)) ret20v))), (6, [], .v (.c (.own 26))), (7, [], .v (.c (.ptr 7 0))), (8, [], .v (.c (.p (.int .i64) i))), (75, [], .v (.c (.own 6142))), (76, [], .v (.c (.p (.sl (.int .i64)) row)))], [(1, [], .box [.p (.int .i64) m.1, .p (.int .i64) m.2.1, .p (.sl (.sl (.int .i64))) m.2.2.1, .p (.int .i64) m.2.2.2.1, .p (.int .u32) m.2.2.2.2]), (2, [], .box [.p (.int .i64) (0 : Int), .p (.int .i64) (0 : Int), .nils, .p (.int .i64) (0 : Int), .p (.int .u32) (0 : Int)]), (7, [], .box [.p (.int .i64) (0 : Int), .p (.int .i64) m.2.1, .own 6142, .p (.int .i64) (0 : Int), .p (.int .u32) out]), (26, [], .arr 3 (.int .i64) found2), (6142, [], .arr 26 (.sl (.int .i64)) l6142)]⟩ : St)) (by kernel_rfl) ?_
          obtain ⟨o1, h⟩ := h
          refine awl_runp 4 [1, 2, 5, 6, 7, 8] [1, 2, 7, 26, 78] (ob := (True ∧ roomN (l6142.length + [row].length) ∧ True ∧ True ∧ True)) (st' := (⟨97, [(1, [], .v (.c (.ptr 1 0))), (2, [], .v (.c (.ptr 2 0))), (5, [], .v (.c (.p (.sl (.int .i64)) ret20v))), (6, [], .v (.c (.own 26))), (7, [], .v (.c (.ptr 7 0))), (8, [], .v (.c (.p (.int .i64) i)))], [(1, [], .box [.p (.int .i64) m.1, .p (.int .i64) m.2.1, .p (.sl (.sl (.int .i64))) m.2.2.1, .p (.int .i64) m.2.2.2.1, .p (.int .u32) m.2.2.2.2]), (2, [], .box [.p (.int .i64) (0 : Int), .p (.int .i64) (0 : Int), .nils, .p (.int .i64) (0 : Int), .p (.int .u32) (0 : Int)]), (7, [], .box [.p (.int .i64) (0 : Int), .p (.int .i64) m.2.1, .own 78, .p (.int .i64) (0 : Int), .p (.int .u32) out]), (26, [], .arr 3 (.int .i64) found2), (78, [], .arr 26 (.sl (.int .i64)) (l6142 ++ [row]))]⟩ : St)) (by kernel_rfl) ⟨trivial, o1, trivial, trivial, trivial⟩ ?_
          refine awl_nil ?_
          refine thenQ_n ?_
          refine aw_seq ?_
          refine awd_begin [] (by kernel_rfl) ?_
          obtain ⟨o1, h⟩ := h
          refine awd_runp (by kernel_rfl) [0, 1, 2, 3, 4, 5] [1, 2, 5, 6, 7, 8, 81, 85] [1, 2, 7, 26, 78] (ob := (True ∧ True ∧ True ∧ True ∧ inIdx i found2.length ∧ True ∧ True)) (done' := [5, 4, 3, 2, 1, 0]) (st' := (⟨97, [(1, [], .v (.c (.ptr 1 0))), (2, [], .v (.c (.ptr 2 0))), (5, [], .v (.c (.p (.sl (.int .i64)) ret20v))), (6, [], .v (.c (.own 26))), (7, [], .v (.c (.ptr 7 0))), (8, [], .v (.c (.p (.int .i64) i))), (81, [], .v (.c (.p (.int .u32) m.2.2.2.2))), (85, [], .v (.c (.p (.int .i64) (found2.getD ((i).toNat) (0 : Int)))))], [(1, [], .box [.p (.int .i64) m.1, .p (.int .i64) m.2.1, .p (.sl (.sl (.int .i64))) m.2.2.1, .p (.int .i64) m.2.2.2.1, .p (.int .u32) m.2.2.2.2]), (2, [], .box [.p (.int .i64) (0 : Int), .p (.int .i64) (0 : Int), .nils, .p (.int .i64) (0 : Int), .p (.int .u32) (0 : Int)]), (7, [], .box [.p (.int .i64) (0 : Int), .p (.int .i64) m.2.1, .own 78, .p (.int .i64) (0 : Int), .p (.int .u32) out]), (26, [], .arr 3 (.int .i64) found2), (78, [], .arr 26 (.sl (.int .i64)) (l6142 ++ [row]))]⟩ : St)) (by kernel_rfl) ⟨trivial, trivial, trivial, trivial, o1, trivial, trivial⟩ ?_
          refine awd_one (i := 6) (by kernel_rfl) ?_
          refine adop_callk (p := []) (l := [toV1 (.int .u32) m.2.2.2.2, toV1 (.int .i64) (found2.getD ((i).toNat) (0 : Int))]) (cl := []) false [.d (.int .u32), .d (.int .i64)] [1, 2, 5, 6, 7, 8, 86] [1, 2, 7, 26, 78] (fun (ret86v : Bool) => ((ret86v = true → (0 ≤ i ∧ VC25_k3 i l6142 X1 found2 row (bOr .u32 out (bShl .u32 (1 : Int) i)))) ∧ (ret86v = false → VC25_k3 i l6142 X1 found2 row out))) (fun ret86v => [toV1 .bool ret86v]) (fun ret86v => (⟨97, [(1, [], .v (.c (.ptr 1 0))), (2, [], .v (.c (.ptr 2 0))), (5, [], .v (.c (.p (.sl (.int .i64)) ret20v))), (6, [], .v (.c (.own 26))), (7, [], .v (.c (.ptr 7 0))), (8, [], .v (.c (.p (.int .i64) i))), (86, [], .v (.c (.p .bool ret86v)))], [(1, [], .box [.p (.int .i64) m.1, .p (.int .i64) m.2.1, .p (.sl (.sl (.int .i64))) m.2.2.1, .p (.int .i64) m.2.2.2.1, .p (.int .u32) m.2.2.2.2]), (2, [], .box [.p (.int .i64) (0 : Int), .p (.int .i64) (0 : Int), .nils, .p (.int .i64) (0 : Int), .p (.int .u32) (0 : Int)]), (7, [], .box [.p (.int .i64) (0 : Int), .p (.int .i64) m.2.1, .own 78, .p (.int .i64) (0 : Int), .p (.int .u32) out]), (26, [], .arr 3 (.int .i64) found2), (78, [], .arr 26 (.sl (.int .i64)) (l6142 ++ [row]))]⟩ : St)) rfl (by kernel_rfl) rfl (by kernel_rfl) rfl (by kernel_rfl) Try.call42 (by kernel_rfl) (fun ret86v => by kernel_rfl) (fun e => by cases e) (fun hg => link42 m.2.2.2.2 (found2.getD ((i).toNat) (0 : Int)) _ h) (fun hg => noF hg) (fun ret86v h => ?_)
          have h : ((ret86v = true → (0 ≤ i ∧ VC25_k3 i l6142 X1 found2 row (bOr .u32 out (bShl .u32 (1 : Int) i)))) ∧ (ret86v = false → VC25_k3 i l6142 X1 found2 row out)) := h
          refine awd_done (by kernel_rfl) ?_
          refine thenQ_n ?_
          refine withJoin (σ := Int) (fun s => (⟨97, [(1, [], .v (.c (.ptr 1 0))), (2, [], .v (.c (.ptr 2 0))), (5, [], .v (.c (.p (.sl (.int .i64)) ret20v))), (6, [], .v (.c (.own 26))), (7, [], .v (.c (.ptr 7 0))), (8, [], .v (.c (.p (.int .i64) i)))], [(1, [], .box [.p (.int .i64) m.1, .p (.int .i64) m.2.1, .p (.sl (.sl (.int .i64))) m.2.2.1, .p (.int .i64) m.2.2.2.1, .p (.int .u32) m.2.2.2.2]), (2, [], .box [.p (.int .i64) (0 : Int), .p (.int .i64) (0 : Int), .nils, .p (.int .i64) (0 : Int), .p (.int .u32) (0 : Int)]), (7, [], .box [.p (.int .i64) (0 : Int), .p (.int .i64) m.2.1, .own 78, .p (.int .i64) (0 : Int), .p (.int .u32) s]), (26, [], .arr 3 (.int .i64) found2), (78, [], .arr 26 (.sl (.int .i64)) (l6142 ++ [row]))]⟩ : St)) (fun s => VC25_k3 i l6142 X1 found2 row s) (fun out2 h => ?_) (fun rest2 => ?_)
          · have h : VC25_k3 i l6142 X1 found2 row out2 := h
            unfold VC25_k3 at h
            refine blockQ_n ?_
            refine thenQ_n ?_
            refine aw_region ?_
            obtain ⟨o1, h⟩ := h
            refine awl_runp 3 [1, 2, 5, 6, 7, 8] [1, 2, 7, 26, 78] (ob := (True ∧ InR (i + (1 : Int)) ∧ True ∧ True)) (st' := (⟨97, [(1, [], .v (.c (.ptr 1 0))), (2, [], .v (.c (.ptr 2 0))), (5, [], .v (.c (.p (.sl (.int .i64)) ret20v))), (6, [], .v (.c (.own 26))), (7, [], .v (.c (.ptr 7 0))), (8, [], .v (.c (.p (.int .i64) (i + (1 : Int)))))], [(1, [], .box [.p (.int .i64) m.1, .p (.int .i64) m.2.1, .p (.sl (.sl (.int .i64))) m.2.2.1, .p (.int .i64) m.2.2.2.1, .p (.int .u32) m.2.2.2.2]), (2, [], .box [.p (.int .i64) (0 : Int), .p (.int .i64) (0 : Int), .nils, .p (.int .i64) (0 : Int), .p (.int .u32) (0 : Int)]), (7, [], .box [.p (.int .i64) (0 : Int), .p (.int .i64) m.2.1, .own 78, .p (.int .i64) (0 : Int), .p (.int .u32) out2]), (26, [], .arr 3 (.int .i64) found2), (78, [], .arr 26 (.sl (.int .i64)) (l6142 ++ [row]))]⟩ : St)) (by kernel_rfl) ⟨trivial, o1, trivial, trivial⟩ ?_
            refine awl_conv [.ren 78 20078, .ren 20078 6142] (st' := (⟨97, [(1, [], .v (.c (.ptr 1 0))), (2, [], .v (.c (.ptr 2 0))), (5, [], .v (.c (.p (.sl (.int .i64)) ret20v))), (6, [], .v (.c (.own 26))), (7, [], .v (.c (.ptr 7 0))), (8, [], .v (.c (.p (.int .i64) (i + (1 : Int)))))], [(1, [], .box [.p (.int .i64) m.1, .p (.int .i64) m.2.1, .p (.sl (.sl (.int .i64))) m.2.2.1, .p (.int .i64) m.2.2.2.1, .p (.int .u32) m.2.2.2.2]), (2, [], .box [.p (.int .i64) (0 : Int), .p (.int .i64) (0 : Int), .nils, .p (.int .i64) (0 : Int), .p (.int .u32) (0 : Int)]), (7, [], .box [.p (.int .i64) (0 : Int), .p (.int .i64) m.2.1, .own 6142, .p (.int .i64) (0 : Int), .p (.int .u32) out2]), (26, [], .arr 3 (.int .i64) found2), (6142, [], .arr 26 (.sl (.int .i64)) (l6142 ++ [row]))]⟩ : St)) (by kernel_rfl) ?_
            refine awl_nil ?_
            exact thenQ_n ⟨((i + (1 : Int)), out2, found2, (l6142 ++ [row])), rfl, h⟩
          · refine aw_cond (b := ret86v) (by kernel_rfl) (fun hb => ?_) (fun hb => ?_)
            · have h := h.1 hb
              refine awd_begin [7] (by kernel_rfl) ?_
              obtain ⟨o1, h⟩ := h
              refine awd_runp (by kernel_rfl) [0, 2, 3] [1, 2, 5, 6, 7, 8, 87, 90] [1, 2, 7, 26, 78] (ob := (True ∧ True ∧ 0 ≤ i ∧ True)) (done' := [3, 2, 0]) (st' := (⟨97, [(1, [], .v (.c (.ptr 1 0))), (2, [], .v (.c (.ptr 2 0))), (5, [], .v (.c (.p (.sl (.int .i64)) ret20v))), (6, [], .v (.c (.own 26))), (7, [], .v (.c (.ptr 7 0))), (8, [], .v (.c (.p (.int .i64) i))), (87, [], .v (.c (.ptr 7 4))), (90, [], .v (.c (.p (.int .u32) (bShl .u32 (1 : Int) i))))], [(1, [], .box [.p (.int .i64) m.1, .p (.int .i64) m.2.1, .p (.sl (.sl (.int .i64))) m.2.2.1, .p (.int .i64) m.2.2.2.1, .p (.int .u32) m.2.2.2.2]), (2, [], .box [.p (.int .i64) (0 : Int), .p (.int .i64) (0 : Int), .nils, .p (.int .i64) (0 : Int), .p (.int .u32) (0 : Int)]), (7, [], .box [.p (.int .i64) (0 : Int), .p (.int .i64) m.2.1, .own 78, .p (.int .i64) (0 : Int), .p (.int .u32) out]), (26, [], .arr 3 (.int .i64) found2), (78, [], .arr 26 (.sl (.int .i64)) (l6142 ++ [row]))]⟩ : St)) (by kernel_rfl) ⟨trivial, trivial, o1, trivial⟩ ?_
              refine awd_one (i := 1) (by kernel_rfl) ?_
              refine adop_stepp [1, 2, 5, 6, 7, 8, 88, 90] [1, 2, 7, 26, 78] (ob := True) (st' := (⟨97, [(1, [], .v (.c (.ptr 1 0))), (2, [], .v (.c (.ptr 2 0))), (5, [], .v (.c (.p (.sl (.int .i64)) ret20v))), (6, [], .v (.c (.own 26))), (7, [], .v (.c (.ptr 7 0))), (8, [], .v (.c (.p (.int .i64) i))), (88, [], .v (.c (.p (.int .u32) out))), (90, [], .v (.c (.p (.int .u32) (bShl .u32 (1 : Int) i))))], [(1, [], .box [.p (.int .i64) m.1, .p (.int .i64) m.2.1, .p (.sl (.sl (.int .i64))) m.2.2.1, .p (.int .i64) m.2.2.2.1, .p (.int .u32) m.2.2.2.2]), (2, [], .box [.p (.int .i64) (0 : Int), .p (.int .i64) (0 : Int), .nils, .p (.int .i64) (0 : Int), .p (.int .u32) (0 : Int)]), (7, [], .box [.p (.int .i64) (0 : Int), .p (.int .i64) m.2.1, .own 78, .p (.int .i64) (0 : Int), .p (.int .u32) out]), (26, [], .arr 3 (.int .i64) found2), (78, [], .arr 26 (.sl (.int .i64)) (l6142 ++ [row]))]⟩ : St)) rfl (by kernel_rfl) trivial ?_
              refine awd_runp (by kernel_rfl) [4, 5] [1, 2, 5, 6, 7, 8, 91, 92] [1, 2, 7, 26, 78] (ob := (True ∧ True ∧ True)) (done' := [5, 4, 1, 3, 2, 0]) (st' := (⟨97, [(1, [], .v (.c (.ptr 1 0))), (2, [], .v (.c (.ptr 2 0))), (5, [], .v (.c (.p (.sl (.int .i64)) ret20v))), (6, [], .v (.c (.own 26))), (7, [], .v (.c (.ptr 7 0))), (8, [], .v (.c (.p (.int .i64) i))), (91, [], .v (.c (.p (.int .u32) (bOr .u32 out (bShl .u32 (1 : Int) i))))), (92, [], .v (.c (.ptr 7 4)))], [(1, [], .box [.p (.int .i64) m.1, .p (.int .i64) m.2.1, .p (.sl (.sl (.int .i64))) m.2.2.1, .p (.int .i64) m.2.2.2.1, .p (.int .u32) m.2.2.2.2]), (2, [], .box [.p (.int .i64) (0 : Int), .p (.int .i64) (0 : Int), .nils, .p (.int .i64) (0 : Int), .p (.int .u32) (0 : Int)]), (7, [], .box [.p (.int .i64) (0 : Int), .p (.int .i64) m.2.1, .own 78, .p (.int .i64) (0 : Int), .p (.int .u32) out]), (26, [], .arr 3 (.int .i64) found2), (78, [], .arr 26 (.sl (.int .i64)) (l6142 ++ [row]))]⟩ : St)) (by kernel_rfl) ⟨trivial, trivial, trivial⟩ ?_
              refine awd_one (i := 6) (by kernel_rfl) ?_
              refine adop_stepp [1, 2, 5, 6, 7, 8] [1, 2, 7, 26, 78] (ob := True) (st' := (⟨97, [(1, [], .v (.c (.ptr 1 0))), (2, [], .v (.c (.ptr 2 0))), (5, [], .v (.c (.p (.sl (.int .i64)) ret20v))), (6, [], .v (.c (.own 26))), (7, [], .v (.c (.ptr 7 0))), (8, [], .v (.c (.p (.int .i64) i)))], [(1, [], .box [.p (.int .i64) m.1, .p (.int .i64) m.2.1, .p (.sl (.sl (.int .i64))) m.2.2.1, .p (.int .i64) m.2.2.2.1, .p (.int .u32) m.2.2.2.2]), (2, [], .box [.p (.int .i64) (0 : Int), .p (.int .i64) (0 : Int), .nils, .p (.int .i64) (0 : Int), .p (.int .u32) (0 : Int)]), (7, [], .box [.p (.int .i64) (0 : Int), .p (.int .i64) m.2.1, .own 78, .p (.int .i64) (0 : Int), .p (.int .u32) (bOr .u32 out (bShl .u32 (1 : Int) i))]), (26, [], .arr 3 (.int .i64) found2), (78, [], .arr 26 (.sl (.int .i64)) (l6142 ++ [row]))]⟩ : St)) rfl (by kernel_rfl) trivial ?_
              refine awd_done (by kernel_rfl) ?_
              exact rest2 (bOr .u32 out (bShl .u32 (1 : Int) i)) h
            · have h := h.2 hb
              refine aw_conv [.prune [1, 2, 5, 6, 7, 8] [1, 2, 7, 26, 78]] (st' := (⟨97, [(1, [], .v (.c (.ptr 1 0))), (2, [], .v (.c (.ptr 2 0))), (5, [], .v (.c (.p (.sl (.int .i64)) ret20v))), (6, [], .v (.c (.own 26))), (7, [], .v (.c (.ptr 7 0))), (8, [], .v (.c (.p (.int .i64) i)))], [(1, [], .box [.p (.int .i64) m.1, .p (.int .i64) m.2.1, .p (.sl (.sl (.int .i64))) m.2.2.1, .p (.int .i64) m.2.2.2.1, .p (.int .u32) m.2.2.2.2]), (2, [], .box [.p (.int .i64) (0 : Int), .p (.int .i64) (0 : Int), .nils, .p (.int .i64) (0 : Int), .p (.int .u32) (0 : Int)]), (7, [], .box [.p (.int .i64) (0 : Int), .p (.int .i64) m.2.1, .own 78, .p (.int .i64) (0 : Int), .p (.int .u32) out]), (26, [], .arr 3 (.int .i64) found2), (78, [], .arr 26 (.sl (.int .i64)) (l6142 ++ [row]))]⟩ : St)) (by kernel_rfl) ?_
              refine aw_skip ?_
              exact rest2 out h
        · refine aw_block ?_
          refine aw_loop (σ := Int × (List Int) × (List Int)) (fun s => (⟨97, [(1, [], .v (.c (.ptr 1 0))), (2, [], .v (.c (.ptr 2 0))), (5, [], .v (.c (.p (.sl (.int .i64)) ret20v))), (6, [], .v (.c (.own 26))), (7, [], .v (.c (.ptr 7 0))), (8, [], .v (.c (.p (.int .i64) i))), (9, [], .v (.c (.own 38))), (40, [], .v (.c (.p (.int .i64) ((List.replicate (m.2.1).toNat (0 : Int)).length : Int)))), (41, [], .v (.c (.p (.int .i64) s.1)))], [(1, [], .box [.p (.int .i64) m.1, .p (.int .i64) m.2.1, .p (.sl (.sl (.int .i64))) m.2.2.1, .p (.int .i64) m.2.2.2.1, .p (.int .u32) m.2.2.2.2]), (2, [], .box [.p (.int .i64) (0 : Int), .p (.int .i64) (0 : Int), .nils, .p (.int .i64) (0 : Int), .p (.int .u32) (0 : Int)]), (7, [], .box [.p (.int .i64) (0 : Int), .p (.int .i64) m.2.1, .own 6142, .p (.int .i64) (0 : Int), .p (.int .u32) out]), (26, [], .arr 3 (.int .i64) s.2.1), (38, [], .arr 3 (.int .i64) s.2.2), (6142, [], .arr 26 (.sl (.int .i64)) l6142)]⟩ : St)) (fun s X => VC25_l2 m ret20v i out l6142 X1 s.1 s.2.1 s.2.2 X) (s0 := ((0 : Int), found, (List.replicate (m.2.1).toNat (0 : Int)))) (fun s X2 h => ?_) h
          obtain ⟨v41, found2, row⟩ := s
          have h : VC25_l2 m ret20v i out l6142 X1 v41 found2 row X2 := h
          unfold VC25_l2 at h
          refine aw_seq ?_
          refine aw_region ?_
          refine awl_runp 1 [1, 2, 5, 6, 7, 8, 9, 40, 41, 42] [1, 2, 7, 26, 38, 6142] (ob := (True ∧ True)) (st' := (⟨97, [(1, [], .v (.c (.ptr 1 0))), (2, [], .v (.c (.ptr 2 0))), (5, [], .v (.c (.p (.sl (.int .i64)) ret20v))), (6, [], .v (.c (.own 26))), (7, [], .v (.c (.ptr 7 0))), (8, [], .v (.c (.p (.int .i64) i))), (9, [], .v (.c (.own 38))), (40, [], .v (.c (.p (.int .i64) ((List.replicate (m.2.1).toNat (0 : Int)).length : Int)))), (41, [], .v (.c (.p (.int .i64) v41))), (42, [], .v (.c (.p .bool (decide (v41 < ((List.replicate (m.2.1).toNat (0 : Int)).length : Int))))))], [(1, [], .box [.p (.int .i64) m.1, .p (.int .i64) m.2.1, .p (.sl (.sl (.int .i64))) m.2.2.1, .p (.int .i64) m.2.2.2.1, .p (.int .u32) m.2.2.2.2]), (2, [], .box [.p (.int .i64) (0 : Int), .p (.int .i64) (0 : Int), .nils, .p (.int .i64) (0 : Int), .p (.int .u32) (0 : Int)]), (7, [], .box [.p (.int .i64) (0 : Int), .p (.int .i64) m.2.1, .own 6142, .p (.int .i64) (0 : Int), .p (.int .u32) out]), (26, [], .arr 3 (.int .i64) found2), (38, [], .arr 3 (.int .i64) row), (6142, [], .arr 26 (.sl (.int .i64)) l6142)]⟩ : St)) (by kernel_rfl) ⟨trivial, trivial⟩ ?_
          refine awl_nil ?_
          refine thenQ_n ?_
          refine aw_seq ?_
          refine aw_cond (b := (decide (v41 < ((List.replicate (m.2.1).toNat (0 : Int)).length : Int)))) (by kernel_rfl) (fun hb => ?_) (fun hb => ?_)
          · have h := h.1 hb
            refine aw_skip ?_
            refine thenQ_n ?_
            refine aw_seq ?_
            refine aw_block ?_
            refine aw_seq ?_
            refine aw_region ?_
            refine awl_runp 2 [1, 2, 5, 6, 7, 8, 9, 10, 40, 41] [1, 2, 7, 26, 38, 6142] (ob := (True ∧ True ∧ True)) (st' := (⟨97, [(1, [], .v (.c (.ptr 1 0))), (2, [], .v (.c (.ptr 2 0))), (5, [], .v (.c (.p (.sl (.int .i64)) ret20v))), (6, [], .v (.c (.own 26))), (7, [], .v (.c (.ptr 7 0))), (8, [], .v (.c (.p (.int .i64) i))), (9, [], .v (.c (.own 38))), (10, [], .v (.c (.p (.int .i64) v41))), (40, [], .v (.c (.p (.int .i64) ((List.replicate (m.2.1).toNat (0 : Int)).length : Int)))), (41, [], .v (.c (.p (.int .i64) v41)))], [(1, [], .box [.p (.int .i64) m.1, .p (.int .i64) m.2.1, .p (.sl (.sl (.int .i64))) m.2.2.1, .p (.int .i64) m.2.2.2.1, .p (.int .u32) m.2.2.2.2]), (2, [], .box [.p (.int .i64) (0 : Int), .p (.int .i64) (0 : Int), .nils, .p (.int .i64) (0 : Int), .p (.int .u32) (0 : Int)]), (7, [], .box [.p (.int .i64) (0 : Int), .p (.int .i64) m.2.1, .own 6142, .p (.int .i64) (0 : Int), .p (.int .u32) out]), (26, [], .arr 3 (.int .i64) found2), (38, [], .arr 3 (.int .i64) row), (6142, [], .arr 26 (.sl (.int .i64)) l6142)]⟩ : St)) (by kernel_rfl) ⟨trivial, trivial, trivial⟩ ?_
            refine awl_nil ?_
            refine thenQ_n ?_
            refine aw_seq ?_
            refine awd_begin [] (by kernel_rfl) ?_
            obtain ⟨o1, o2, o3, o4, h⟩ := h
            refine awd_runp (by kernel_rfl) [0, 1, 2, 3, 4, 5, 6, 7, 8, 9, 10, 11, 12, 13, 14] [1, 2, 5, 6, 7, 8, 9, 10, 11, 40, 41] [1, 2, 7, 26, 38, 6142] (ob := (True ∧ True ∧ True ∧ True ∧ True ∧ inIdx i found2.length ∧ True ∧ inIdx (found2.getD ((i).toNat) (0 : Int)) m.2.2.1.length ∧ True ∧ True ∧ inIdx v41 (m.2.2.1.getD ((found2.getD ((i).toNat) (0 : Int))).toNat ([] : (List Int))).length ∧ True ∧ inIdx ((m.2.2.1.getD ((found2.getD ((i).toNat) (0 : Int))).toNat ([] : (List Int))).getD (v41).toNat (0 : Int)) ret20v.length ∧ True ∧ True ∧ True)) (done' := [14, 13, 12, 11, 10, 9, 8, 7, 6, 5, 4, 3, 2, 1, 0]) (st' := (⟨97, [(1, [], .v (.c (.ptr 1 0))), (2, [], .v (.c (.ptr 2 0))), (5, [], .v (.c (.p (.sl (.int .i64)) ret20v))), (6, [], .v (.c (.own 26))), (7, [], .v (.c (.ptr 7 0))), (8, [], .v (.c (.p (.int .i64) i))), (9, [], .v (.c (.own 38))), (10, [], .v (.c (.p (.int .i64) v41))), (11, [], .v (.c (.p (.int .i64) (ret20v.getD (((m.2.2.1.getD ((found2.getD ((i).toNat) (0 : Int))).toNat ([] : (List Int))).getD (v41).toNat (0 : Int))).toNat (0 : Int))))), (40, [], .v (.c (.p (.int .i64) ((List.replicate (m.2.1).toNat (0 : Int)).length : Int)))), (41, [], .v (.c (.p (.int .i64) v41)))], [(1, [], .box [.p (.int .i64) m.1, .p (.int .i64) m.2.1, .p (.sl (.sl (.int .i64))) m.2.2.1, .p (.int .i64) m.2.2.2.1, .p (.int .u32) m.2.2.2.2]), (2, [], .box [.p (.int .i64) (0 : Int), .p (.int .i64) (0 : Int), .nils, .p (.int .i64) (0 : Int), .p (.int .u32) (0 : Int)]), (7, [], .box [.p (.int .i64) (0 : Int), .p (.int .i64) m.2.1, .own 6142, .p (.int .i64) (0 : Int), .p (.int .u32) out]), (26, [], .arr 3 (.int .i64) found2), (38, [], .arr 3 (.int .i64) row), (6142, [], .arr 26 (.sl (.int .i64)) l6142)]⟩ : St)) (by kernel_rfl) ⟨trivial, trivial, trivial, trivial, trivial, o1, trivial, o2, trivial, trivial, o3, trivial, o4, trivial, trivial, trivial⟩ ?_
            refine awd_done (by kernel_rfl) ?_
            refine thenQ_n ?_
            refine aw_seq ?_
            refine aw_region ?_
            refine awl_runp 2 [1, 2, 5, 6, 7, 8, 9, 10, 11, 40, 41, 58, 59] [1, 2, 7, 26, 38, 6142] (ob := (True ∧ True ∧ True)) (st' := (⟨97, [(1, [], .v (.c (.ptr 1 0))), (2, [], .v (.c (.ptr 2 0))), (5, [], .v (.c (.p (.sl (.int .i64)) ret20v))), (6, [], .v (.c (.own 26))), (7, [], .v (.c (.ptr 7 0))), (8, [], .v (.c (.p (.int .i64) i))), (9, [], .v (.c (.own 38))), (10, [], .v (.c (.p (.int .i64) v41))), (11, [], .v (.c (.p (.int .i64) (ret20v.getD (((m.2.2.1.getD ((found2.getD ((i).toNat) (0 : Int))).toNat ([] : (List Int))).getD (v41).toNat (0 : Int))).toNat (0 : Int))))), (40, [], .v (.c (.p (.int .i64) ((List.replicate (m.2.1).toNat (0 : Int)).length : Int)))), (41, [], .v (.c (.p (.int .i64) v41))), (58, [], .v (.c (.own 26))), (59, [], .v (.c (.p (.int .i64) (ret20v.getD (((m.2.2.1.getD ((found2.getD ((i).toNat) (0 : Int))).toNat ([] : (List Int))).getD (v41).toNat (0 : Int))).toNat (0 : Int)))))], [(1, [], .box [.p (.int .i64) m.1, .p (.int .i64) m.2.1, .p (.sl (.sl (.int .i64))) m.2.2.1, .p (.int .i64) m.2.2.2.1, .p (.int .u32) m.2.2.2.2]), (2, [], .box [.p (.int .i64) (0 : Int), .p (.int .i64) (0 : Int), .nils, .p (.int .i64) (0 : Int), .p (.int .u32) (0 : Int)]), (7, [], .box [.p (.int .i64) (0 : Int), .p (.int .i64) m.2.1, .own 6142, .p (.int .i64) (0 : Int), .p (.int .u32) out]), (26, [], .arr 3 (.int .i64) found2), (38, [], .arr 3 (.int .i64) row), (6142, [], .arr 26 (.sl (.int .i64)) l6142)]⟩ : St)) (by kernel_rfl) ⟨trivial, trivial, trivial⟩ ?_
            refine awl_callk (p := []) (l := [toV1 (.sl (.int .i64)) found2, toV1 (.int .i64) (ret20v.getD (((m.2.2.1.getD ((found2.getD ((i).toNat) (0 : Int))).toNat ([] : (List Int))).getD (v41).toNat (0 : Int))).toNat (0 : Int))]) (cl := []) true [.d (.sl (.int .i64)), .d (.int .i64)] [1, 2, 5, 6, 7, 8, 9, 10, 11, 40, 41, 60] [1, 2, 7, 26, 38, 6142] (fun (ret60v : Int) => (((decide (ret60v < (0 : Int))) = true → (roomN (found2.length + [(ret20v.getD (((m.2.2.1.getD ((found2.getD ((i).toNat) (0 : Int))).toNat ([] : (List Int))).getD (v41).toNat (0 : Int))).toNat (0 : Int))].length) ∧ VC25_k4 v41 row X2 (found2.length : Int) (found2 ++ [(ret20v.getD (((m.2.2.1.getD ((found2.getD ((i).toNat) (0 : Int))).toNat ([] : (List Int))).getD (v41).toNat (0 : Int))).toNat (0 : Int))]))) ∧ ((decide (ret60v < (0 : Int))) = false → VC25_k4 v41 row X2 ret60v found2))) (fun ret60v => [toV1 (.int .i64) ret60v]) (fun ret60v => (⟨97, [(1, [], .v (.c (.ptr 1 0))), (2, [], .v (.c (.ptr 2 0))), (5, [], .v (.c (.p (.sl (.int .i64)) ret20v))), (6, [], .v (.c (.own 26))), (7, [], .v (.c (.ptr 7 0))), (8, [], .v (.c (.p (.int .i64) i))), (9, [], .v (.c (.own 38))), (10, [], .v (.c (.p (.int .i64) v41))), (11, [], .v (.c (.p (.int .i64) (ret20v.getD (((m.2.2.1.getD ((found2.getD ((i).toNat) (0 : Int))).toNat ([] : (List Int))).getD (v41).toNat (0 : Int))).toNat (0 : Int))))), (40, [], .v (.c (.p (.int .i64) ((List.replicate (m.2.1).toNat (0 : Int)).length : Int)))), (41, [], .v (.c (.p (.int .i64) v41))), (60, [], .v (.c (.p (.int .i64) ret60v)))], [(1, [], .box [.p (.int .i64) m.1, .p (.int .i64) m.2.1, .p (.sl (.sl (.int .i64))) m.2.2.1, .p (.int .i64) m.2.2.2.1, .p (.int .u32) m.2.2.2.2]), (2, [], .box [.p (.int .i64) (0 : Int), .p (.int .i64) (0 : Int), .nils, .p (.int .i64) (0 : Int), .p (.int .u32) (0 : Int)]), (7, [], .box [.p (.int .i64) (0 : Int), .p (.int .i64) m.2.1, .own 6142, .p (.int .i64) (0 : Int), .p (.int .u32) out]), (26, [], .arr 3 (.int .i64) found2), (38, [], .arr 3 (.int .i64) row), (6142, [], .arr 26 (.sl (.int .i64)) l6142)]⟩ : St)) (by kernel_rfl) rfl (by kernel_rfl) rfl (by kernel_rfl) Try.call49 (by kernel_rfl) (fun ret60v => by kernel_rfl) (fun _ _ => rfl) (fun hg => link49 found2 (ret20v.getD (((m.2.2.1.getD ((found2.getD ((i).toNat) (0 : Int))).toNat ([] : (List Int))).getD (v41).toNat (0 : Int))).toNat (0 : Int)) _ h) (fun hg => noF hg) (fun ret60v h => ?_)
            have h : (((decide (ret60v < (0 : Int))) = true → (roomN (found2.length + [(ret20v.getD (((m.2.2.1.getD ((found2.getD ((i).toNat) (0 : Int))).toNat ([] : (List Int))).getD (v41).toNat (0 : Int))).toNat (0 : Int))].length) ∧ VC25_k4 v41 row X2 (found2.length : Int) (found2 ++ [(ret20v.getD (((m.2.2.1.getD ((found2.getD ((i).toNat) (0 : Int))).toNat ([] : (List Int))).getD (v41).toNat (0 : Int))).toNat (0 : Int))]))) ∧ ((decide (ret60v < (0 : Int))) = false → VC25_k4 v41 row X2 ret60v found2)) := h
            refine awl_runp 1 [1, 2, 5, 6, 7, 8, 9, 10, 11, 12, 40, 41] [1, 2, 7, 26, 38, 6142] (ob := (True ∧ True)) (st' := (⟨97, [(1, [], .v (.c (.ptr 1 0))), (2, [], .v (.c (.ptr 2 0))), (5, [], .v (.c (.p (.sl (.int .i64)) ret20v))), (6, [], .v (.c (.own 26))), (7, [], .v (.c (.ptr 7 0))), (8, [], .v (.c (.p (.int .i64) i))), (9, [], .v (.c (.own 38))), (10, [], .v (.c (.p (.int .i64) v41))), (11, [], .v (.c (.p (.int .i64) (ret20v.getD (((m.2.2.1.getD ((found2.getD ((i).toNat) (0 : Int))).toNat ([] : (List Int))).getD (v41).toNat (0 : Int))).toNat (0 : Int))))), (12, [], .v (.c (.p (.int .i64) ret60v))), (40, [], .v (.c (.p (.int .i64) ((List.replicate (m.2.1).toNat (0 : Int)).length : Int)))), (41, [], .v (.c (.p (.int .i64) v41)))], [(1, [], .box [.p (.int .i64) m.1, .p (.int .i64) m.2.1, .p (.sl (.sl (.int .i64))) m.2.2.1, .p (.int .i64) m.2.2.2.1, .p (.int .u32) m.2.2.2.2]), (2, [], .box [.p (.int .i64) (0 : Int), .p (.int .i64) (0 : Int), .nils, .p (.int .i64) (0 : Int), .p (.int .u32) (0 : Int)]), (7, [], .box [.p (.int .i64) (0 : Int), .p (.int .i64) m.2.1, .own 6142, .p (.int .i64) (0 : Int), .p (.int .u32) out]), (26, [], .arr 3 (.int .i64) found2), (38, [], .arr 3 (.int .i64) row), (6142, [], .arr 26 (.sl (.int .i64)) l6142)]⟩ : St)) (by kernel_rfl) ⟨trivial, trivial⟩ ?_
            refine awl_nil ?_
            refine thenQ_n ?_
            refine aw_seq ?_
            refine aw_seq ?_
            refine aw_region ?_
            refine awl_runp 2 [1, 2, 5, 6, 7, 8, 9, 10, 11, 12, 40, 41, 62] [1, 2, 7, 26, 38, 6142] (ob := (True ∧ True ∧ True)) (st' := (⟨97, [(1, [], .v (.c (.ptr 1 0))), (2, [], .v (.c (.ptr 2 0))), (5, [], .v (.c (.p (.sl (.int .i64)) ret20v))), (6, [], .v (.c (.own 26))), (7, [], .v (.c (.ptr 7 0))), (8, [], .v (.c (.p (.int .i64) i))), (9, [], .v (.c (.own 38))), (10, [], .v (.c (.p (.int .i64) v41))), (11, [], .v (.c (.p (.int .i64) (ret20v.getD (((m.2.2.1.getD ((found2.getD ((i).toNat) (0 : Int))).toNat ([] : (List Int))).getD (v41).toNat (0 : Int))).toNat (0 : Int))))), (12, [], .v (.c (.p (.int .i64) ret60v))), (40, [], .v (.c (.p (.int .i64) ((List.replicate (m.2.1).toNat (0 : Int)).length : Int)))), (41, [], .v (.c (.p (.int .i64) v41))), (62, [], .v (.c (.p .bool (decide (ret60v < (0 : Int))))))], [(1, [], .box [.p (.int .i64) m.1, .p (.int .i64) m.2.1, .p (.sl (.sl (.int .i64))) m.2.2.1, .p (.int .i64) m.2.2.2.1, .p (.int .u32) m.2.2.2.2]), (2, [], .box [.p (.int .i64) (0 : Int), .p (.int .i64) (0 : Int), .nils, .p (.int .i64) (0 : Int), .p (.int .u32) (0 : Int)]), (7, [], .box [.p (.int .i64) (0 : Int), .p (.int .i64) m.2.1, .own 6142, .p (.int .i64) (0 : Int), .p (.int .u32) out]), (26, [], .arr 3 (.int .i64) found2), (38, [], .arr 3 (.int .i64) row), (6142, [], .arr 26 (.sl (.int .i64)) l6142)]⟩ : St)) (by kernel_rfl) ⟨trivial, trivial, trivial⟩ ?_
            refine awl_nil ?_
            refine thenQ_n ?_
            refine withJoin (σ := Int × (List Int)) (fun s => (⟨97, [(1, [], .v (.c (.ptr 1 0))), (2, [], .v (.c (.ptr 2 0))), (5, [], .v (.c (.p (.sl (.int .i64)) ret20v))), (6, [], .v (.c (.own 68))), (7, [], .v (.c (.ptr 7 0))), (8, [], .v (.c (.p (.int .i64) i))), (9, [], .v (.c (.own 38))), (10, [], .v (.c (.p (.int .i64) v41))), (12, [], .v (.c (.p (.int .i64) s.1))), (40, [], .v (.c (.p (.int .i64) ((List.replicate (m.2.1).toNat (0 : Int)).length : Int)))), (41, [], .v (.c (.p (.int .i64) v41)))], [(1, [], .box [.p (.int .i64) m.1, .p (.int .i64) m.2.1, .p (.sl (.sl (.int .i64))) m.2.2.1, .p (.int .i64) m.2.2.2.1, .p (.int .u32) m.2.2.2.2]), (2, [], .box [.p (.int .i64) (0 : Int), .p (.int .i64) (0 : Int), .nils, .p (.int .i64) (0 : Int), .p (.int .u32) (0 : Int)]), (7, [], .box [.p (.int .i64) (0 : Int), .p (.int .i64) m.2.1, .own 6142, .p (.int .i64) (0 : Int), .p (.int .u32) out]), (38, [], .arr 3 (.int .i64) row), (68, [], .arr 3 (.int .i64) s.2), (6142, [], .arr 26 (.sl (.int .i64)) l6142)]⟩ : St)) (fun s => VC25_k4 v41 row X2 s.1 s.2) (fun s h => ?_) (fun rest4 => ?_)
            · obtain ⟨n, found3⟩ := s
              have h : VC25_k4 v41 row X2 n found3 := h
              unfold VC25_k4 at h
              refine thenQ_n ?_
              refine aw_region ?_
              obtain ⟨o1, h⟩ := h
              refine awl_runp 5 [1, 2, 5, 6, 7, 8, 9, 40, 41] [1, 2, 7, 38, 68, 6142] (ob := (True ∧ True ∧ True ∧ inIdx v41 row.length ∧ True ∧ True)) (st' := (⟨97, [(1, [], .v (.c (.ptr 1 0))), (2, [], .v (.c (.ptr 2 0))), (5, [], .v (.c (.p (.sl (.int .i64)) ret20v))), (6, [], .v (.c (.own 68))), (7, [], .v (.c (.ptr 7 0))), (8, [], .v (.c (.p (.int .i64) i))), (9, [], .v (.c (.own 38))), (40, [], .v (.c (.p (.int .i64) ((List.replicate (m.2.1).toNat (0 : Int)).length : Int)))), (41, [], .v (.c (.p (.int .i64) v41)))], [(1, [], .box [.p (.int .i64) m.1, .p (.int .i64) m.2.1, .p (.sl (.sl (.int .i64))) m.2.2.1, .p (.int .i64) m.2.2.2.1, .p (.int .u32) m.2.2.2.2]), (2, [], .box [.p (.int .i64) (0 : Int), .p (.int .i64) (0 : Int), .nils, .p (.int .i64) (0 : Int), .p (.int .u32) (0 : Int)]), (7, [], .box [.p (.int .i64) (0 : Int), .p (.int .i64) m.2.1, .own 6142, .p (.int .i64) (0 : Int), .p (.int .u32) out]), (38, [], .arr 3 (.int .i64) (row.set ((v41).toNat) n)), (68, [], .arr 3 (.int .i64) found3), (6142, [], .arr 26 (.sl (.int .i64)) l6142)]⟩ : St)) (by kernel_rfl) ⟨trivial, trivial, trivial, o1, trivial, trivial⟩ ?_
              refine awl_nil ?_
              refine blockQ_n ?_
              refine thenQ_n ?_
              refine aw_region ?_
              obtain ⟨o1, h⟩ := h
              refine awl_runp 2 [1, 2, 5, 6, 7, 8, 9, 40, 41] [1, 2, 7, 38, 68, 6142] (ob := (InR (v41 + (1 : Int)) ∧ True ∧ True)) (st' := (⟨97, [(1, [], .v (.c (.ptr 1 0))), (2, [], .v (.c (.ptr 2 0))), (5, [], .v (.c (.p (.sl (.int .i64)) ret20v))), (6, [], .v (.c (.own 68))), (7, [], .v (.c (.ptr 7 0))), (8, [], .v (.c (.p (.int .i64) i))), (9, [], .v (.c (.own 38))), (40, [], .v (.c (.p (.int .i64) ((List.replicate (m.2.1).toNat (0 : Int)).length : Int)))), (41, [], .v (.c (.p (.int .i64) (v41 + (1 : Int)))))], [(1, [], .box [.p (.int .i64) m.1, .p (.int .i64) m.2.1, .p (.sl (.sl (.int .i64))) m.2.2.1, .p (.int .i64) m.2.2.2.1, .p (.int .u32) m.2.2.2.2]), (2, [], .box [.p (.int .i64) (0 : Int), .p (.int .i64) (0 : Int), .nils, .p (.int .i64) (0 : Int), .p (.int .u32) (0 : Int)]), (7, [], .box [.p (.int .i64) (0 : Int), .p (.int .i64) m.2.1, .own 6142, .p (.int .i64) (0 : Int), .p (.int .u32) out]), (38, [], .arr 3 (.int .i64) (row.set ((v41).toNat) n)), (68, [], .arr 3 (.int .i64) found3), (6142, [], .arr 26 (.sl (.int .i64)) l6142)]⟩ : St)) (by kernel_rfl) ⟨o1, trivial, trivial⟩ ?_
              refine awl_conv [.ren 68 20068, .ren 20068 26, .prune [1, 2, 5, 6, 7, 8, 9, 40, 41] [1, 2, 7, 26, 38, 6142]] (st' := (⟨97, [(1, [], .v (.c (.ptr 1 0))), (2, [], .v (.c (.ptr 2 0))), (5, [], .v (.c (.p (.sl (.int .i64)) ret20v))), (6, [], .v (.c (.own 26))), (7, [], .v (.c (.ptr 7 0))), (8, [], .v (.c (.p (.int .i64) i))), (9, [], .v (.c (.own 38))), (40, [], .v (.c (.p (.int .i64) ((List.replicate (m.2.1).toNat (0 : Int)).length : Int)))), (41, [], .v (.c (.p (.int .i64) (v41 + (1 : Int)))))], [(1, [], .box [.p (.int .i64) m.1, .p (.int .i64) m.2.1, .p (.sl (.sl (.int .i64))) m.2.2.1, .p (.int .i64) m.2.2.2.1, .p (.int .u32) m.2.2.2.2]), (2, [], .box [.p (.int .i64) (0 : Int), .p (.int .i64) (0 : Int), .nils, .p (.int .i64) (0 : Int), .p (.int .u32) (0 : Int)]), (7, [], .box [.p (.int .i64) (0 : Int), .p (.int .i64) m.2.1, .own 6142, .p (.int .i64) (0 : Int), .p (.int .u32) out]), (26, [], .arr 3 (.int .i64) found3), (38, [], .arr 3 (.int .i64) (row.set ((v41).toNat) n)), (6142, [], .arr 26 (.sl (.int .i64)) l6142)]⟩ : St)) (by kernel_rfl) ?_
              refine awl_nil ?_
              exact thenQ_n ⟨((v41 + (1 : Int)), found3, (row.set ((v41).toNat) n)), rfl, h⟩
            · refine aw_cond (b := (decide (ret60v < (0 : Int)))) (by kernel_rfl) (fun hb => ?_) (fun hb => ?_)
              · have h := h.1 hb
                refine aw_seq ?_
                refine aw_region ?_
                refine awl_runp 3 [1, 2, 5, 6, 7, 8, 9, 10, 11, 12, 40, 41] [1, 2, 7, 26, 38, 6142] (ob := (True ∧ True ∧ True ∧ True)) (st' := (⟨97, [(1, [], .v (.c (.ptr 1 0))), (2, [], .v (.c (.ptr 2 0))), (5, [], .v (.c (.p (.sl (.int .i64)) ret20v))), (6, [], .v (.c (.own 26))), (7, [], .v (.c (.ptr 7 0))), (8, [], .v (.c (.p (.int .i64) i))), (9, [], .v (.c (.own 38))), (10, [], .v (.c (.p (.int .i64) v41))), (11, [], .v (.c (.p (.int .i64) (ret20v.getD (((m.2.2.1.getD ((found2.getD ((i).toNat) (0 : Int))).toNat ([] : (List Int))).getD (v41).toNat (0 : Int))).toNat (0 : Int))))), (12, [], .v (.c (.p (.int .i64) (found2.length : Int)))), (40, [], .v (.c (.p (.int .i64) ((List.replicate (m.2.1).toNat (0 : Int)).length : Int)))), (41, [], .v (.c (.p (.int .i64) v41)))], [(1, [], .box [.p (.int .i64) m.1, .p (.int .i64) m.2.1, .p (.sl (.sl (.int .i64))) m.2.2.1, .p (.int .i64) m.2.2.2.1, .p (.int .u32) m.2.2.2.2]), (2, [], .box [.p (.int .i64) (0 : Int), .p (.int .i64) (0 : Int), .nils, .p (.int .i64) (0 : Int), .p (.int .u32) (0 : Int)]), (7, [], .box [.p (.int .i64) (0 : Int), .p (.int .i64) m.2.1, .own 6142, .p (.int .i64) (0 : Int), .p (.int .u32) out]), (26, [], .arr 3 (.int .i64) found2), (38, [], .arr 3 (.int .i64) row), (6142, [], .arr 26 (.sl (.int .i64)) l6142)]⟩ : St)) (by kernel_rfl) ⟨trivial, trivial, trivial, trivial⟩ ?_
                refine awl_nil ?_
                refine thenQ_n ?_
                refine aw_region ?_
                obtain ⟨o1, h⟩ := h
                refine awl_runp 5 [1, 2, 5, 6, 7, 8, 9, 10, 12, 40, 41] [1, 2, 7, 38, 68, 6142] (ob := (True ∧ True ∧ True ∧ roomN (found2.length + [(ret20v.getD (((m.2.2.1.getD ((found2.getD ((i).toNat) (0 : Int))).toNat ([] : (List Int))).getD (v41).toNat (0 : Int))).toNat (0 : Int))].length) ∧ True ∧ True)) (st' := (⟨97, [(1, [], .v (.c (.ptr 1 0))), (2, [], .v (.c (.ptr 2 0))), (5, [], .v (.c (.p (.sl (.int .i64)) ret20v))), (6, [], .v (.c (.own 68))), (7, [], .v (.c (.ptr 7 0))), (8, [], .v (.c (.p (.int .i64) i))), (9, [], .v (.c (.own 38))), (10, [], .v (.c (.p (.int .i64) v41))), (12, [], .v (.c (.p (.int .i64) (found2.length : Int)))), (40, [], .v (.c (.p (.int .i64) ((List.replicate (m.2.1).toNat (0 : Int)).length : Int)))), (41, [], .v (.c (.p (.int .i64) v41)))], [(1, [], .box [.p (.int .i64) m.1, .p (.int .i64) m.2.1, .p (.sl (.sl (.int .i64))) m.2.2.1, .p (.int .i64) m.2.2.2.1, .p (.int .u32) m.2.2.2.2]), (2, [], .box [.p (.int .i64) (0 : Int), .p (.int .i64) (0 : Int), .nils, .p (.int .i64) (0 : Int), .p (.int .u32) (0 : Int)]), (7, [], .box [.p (.int .i64) (0 : Int), .p (.int .i64) m.2.1, .own 6142, .p (.int .i64) (0 : Int), .p (.int .u32) out]), (38, [], .arr 3 (.int .i64) row), (68, [], .arr 3 (.int .i64) (found2 ++ [(ret20v.getD (((m.2.2.1.getD ((found2.getD ((i).toNat) (0 : Int))).toNat ([] : (List Int))).getD (v41).toNat (0 : Int))).toNat (0 : Int))])), (6142, [], .arr 26 (.sl (.int .i64)) l6142)]⟩ : St)) (by kernel_rfl) ⟨trivial, trivial, trivial, o1, trivial, trivial⟩ ?_
                refine awl_nil ?_
                exact rest4 ((found2.length : Int), (found2 ++ [(ret20v.getD (((m.2.2.1.getD ((found2.getD ((i).toNat) (0 : Int))).toNat ([] : (List Int))).getD (v41).toNat (0 : Int))).toNat (0 : Int))])) h
              · have h := h.2 hb
                refine aw_conv [.prune [1, 2, 5, 6, 7, 8, 9, 10, 12, 40, 41] [1, 2, 7, 26, 38, 6142], .ren 26 20026, .ren 20026 68, .prune [1, 2, 5, 6, 7, 8, 9, 10, 12, 40, 41] [1, 2, 7, 38, 68, 6142]] (st' := (⟨97, [(1, [], .v (.c (.ptr 1 0))), (2, [], .v (.c (.ptr 2 0))), (5, [], .v (.c (.p (.sl (.int .i64)) ret20v))), (6, [], .v (.c (.own 68))), (7, [], .v (.c (.ptr 7 0))), (8, [], .v (.c (.p (.int .i64) i))), (9, [], .v (.c (.own 38))), (10, [], .v (.c (.p (.int .i64) v41))), (12, [], .v (.c (.p (.int .i64) ret60v))), (40, [], .v (.c (.p (.int .i64) ((List.replicate (m.2.1).toNat (0 : Int)).length : Int)))), (41, [], .v (.c (.p (.int .i64) v41)))], [(1, [], .box [.p (.int .i64) m.1, .p (.int .i64) m.2.1, .p (.sl (.sl (.int .i64))) m.2.2.1, .p (.int .i64) m.2.2.2.1, .p (.int .u32) m.2.2.2.2]), (2, [], .box [.p (.int .i64) (0 : Int), .p (.int .i64) (0 : Int), .nils, .p (.int .i64) (0 : Int), .p (.int .u32) (0 : Int)]), (7, [], .box [.p (.int .i64) (0 : Int), .p (.int .i64) m.2.1, .own 6142, .p (.int .i64) (0 : Int), .p (.int .u32) out]), (38, [], .arr 3 (.int .i64) row), (68, [], .arr 3 (.int .i64) found2), (6142, [], .arr 26 (.sl (.int .i64)) l6142)]⟩ : St)) (by kernel_rfl) ?_
                refine aw_skip ?_
                exact rest4 (ret60v, found2) h
          · have h := h.2 hb
            refine aw_conv [.prune [1, 2, 5, 6, 7, 8, 9] [1, 2, 7, 26, 38, 6142]] (st' := (⟨97, [(1, [], .v (.c (.ptr 1 0))), (2, [], .v (.c (.ptr 2 0))), (5, [], .v (.c (.p (.sl (.int .i64)) ret20v))), (6, [], .v (.c (.own 26))), (7, [], .v (.c (.ptr 7 0))), (8, [], .v (.c (.p (.int .i64) i))), (9, [], .v (.c (.own 38)))], [(1, [], .box [.p (.int .i64) m.1, .p (.int .i64) m.2.1, .p (.sl (.sl (.int .i64))) m.2.2.1, .p (.int .i64) m.2.2.2.1, .p (.int .u32) m.2.2.2.2]), (2, [], .box [.p (.int .i64) (0 : Int), .p (.int .i64) (0 : Int), .nils, .p (.int .i64) (0 : Int), .p (.int .u32) (0 : Int)]), (7, [], .box [.p (.int .i64) (0 : Int), .p (.int .i64) m.2.1, .own 6142, .p (.int .i64) (0 : Int), .p (.int .u32) out]), (26, [], .arr 3 (.int .i64) found2), (38, [], .arr 3 (.int .i64) row), (6142, [], .arr 26 (.sl (.int .i64)) l6142)]⟩ : St)) (by kernel_rfl) ?_
            refine aw_exit ?_
            refine thenQ_x ?_
            refine thenQ_x ?_
            refine blockQ_hit ?_
            exact rest3 (found2, row) h
      · have h := h.2 hb
        refine aw_conv [.prune [2, 6, 7] [2, 7, 26, 6142]] (st' := (⟨97, [(2, [], .v (.c (.ptr 2 0))), (6, [], .v (.c (.own 26))), (7, [], .v (.c (.ptr 7 0)))], [(2, [], .box [.p (.int .i64) (0 : Int), .p (.int .i64) (0 : Int), .nils, .p (.int .i64) (0 : Int), .p (.int .u32) (0 : Int)]), (7, [], .box [.p (.int .i64) (0 : Int), .p (.int .i64) m.2.1, .own 6142, .p (.int .i64) (0 : Int), .p (.int .u32) out]), (26, [], .arr 3 (.int .i64) found), (6142, [], .arr 26 (.sl (.int .i64)) l6142)]⟩ : St)) (by kernel_rfl) ?_
        refine aw_exit ?_
        refine thenQ_x ?_
        refine thenQ_x ?_
        refine blockQ_hit ?_
        exact rest1 (out, found, l6142) h

end Dec
