/-
  Printed by dec2.py: of each function its plain demand, and that the demand gives the contract.
-/
import Derived.Test.YtckghdhnmpnljaaProg
import Derived.Test.YtckghdhnmpnljaaDecT
import Derived.Test.YtckghdhnmpnljaaDecX
set_option linter.unusedVariables false
set_option linter.unusedSimpArgs false
set_option maxRecDepth 100000
namespace Dec
open Go Go.RowKit Go.Proofs

-- coppicer/turner.Check$1
def VC76 (n : Int) (most : Int) (K : Bool → Prop) : Prop :=
  K ((decide ((1 : Int) ≤ n)) && (decide (n ≤ most)))

set_option maxHeartbeats 4000000 in
theorem link76 (n : Int) (most : Int) (K : Bool → Prop) (h : VC76 n most K) : ACalls Try.prog 76 [toV1 (.int .i64) n, toV1 (.int .i64) most] (fun res => ∃ y, res = (fun y => [toV1 .bool y]) y ∧ K y) := by
  refine acalls_of_aw [.bool] [.t 4] Try.func76 rfl rfl rfl ?_
  unfold VC76 at h
  refine aw_seq ?_
  refine aw_region ?_
  refine awl_runp 1 [0, 1] [] (ob := (True ∧ True)) (st' := (⟨12, [(0, [], .v (.c (.p (.int .i64) n))), (1, [], .v (.c (.p (.int .i64) most)))], []⟩ : St)) (by kernel_rfl) ⟨trivial, trivial⟩ ?_
  refine awl_nil ?_
  refine thenQ_n ?_
  refine aw_seq ?_
  refine aw_region ?_
  refine awl_runp 8 [4] [] (ob := (True ∧ True ∧ True ∧ ((decide ((1 : Int) ≤ n)) = true → True) ∧ ((decide ((1 : Int) ≤ n)) = true → True) ∧ ((decide ((1 : Int) ≤ n)) = true → True) ∧ True ∧ True ∧ True)) (st' := (⟨12, [(4, [], .v (.c (.p .bool ((decide ((1 : Int) ≤ n)) && (decide (n ≤ most))))))], []⟩ : St)) (by kernel_rfl) ⟨trivial, trivial, trivial, (fun _ => trivial), (fun _ => trivial), (fun _ => trivial), trivial, trivial, trivial⟩ ?_
  refine awl_nil ?_
  refine thenQ_n ?_
  refine aw_ret ?_
  exact retQ_r (σ := Bool) (R := (fun y => [toV1 .bool y])) (ob := (True ∧ True)) ((decide ((1 : Int) ≤ n)) && (decide (n ≤ most))) (by kernel_rfl) ⟨trivial, trivial⟩ h

-- slices.IndexFunc[[][]int,[]int]
def VC100_k1 (K : Int → Prop) : Prop :=
  K (-1 : Int)

def VC100_l1 (sv : (List (List Int))) (F1 : (List Int) → (Bool → Prop) → Prop) (K : Int → Prop) (v8 : Int) (X1 : Int → Prop) : Prop :=
  (((decide (v8 < (sv.length : Int))) = true → (inIdx v8 sv.length ∧ F1 (sv.getD (v8).toNat ([] : (List Int))) (fun (ret16v : Bool) => ((ret16v = true → K v8) ∧ (ret16v = false → (InR (v8 + (1 : Int)) ∧ X1 (v8 + (1 : Int)))))))) ∧ ((decide (v8 < (sv.length : Int))) = false → VC100_k1 K))

def VC100 (sv : (List (List Int))) (F1 : (List Int) → (Bool → Prop) → Prop) (K : Int → Prop) : Prop :=
  Loop (σ := Int) (fun s X => VC100_l1 sv F1 K s X) (0 : Int)

set_option maxHeartbeats 4000000 in
theorem link100 (sv : (List (List Int))) (fv1 : FuncId) (cv1 : List Dat) (F1 : (List Int) → (Bool → Prop) → Prop) (hF1 : FnIs Try.prog fv1 cv1 (fun (x : (List Int)) => [toV1 (.sl (.int .i64)) x]) (fun (y : Bool) => [toV1 .bool y]) F1) (K : Int → Prop) (h : VC100 sv F1 K) : ACalls Try.prog 100 [toV1 (.sl (.sl (.int .i64))) sv, .c (.fn fv1 cv1)] (fun res => ∃ y, res = (fun y => [toV1 (.int .i64) y]) y ∧ K y) := by
  refine acalls_of_aw [(.int .i64)] [.t 4] Try.func100 rfl rfl rfl ?_
  unfold VC100 at h
  refine aw_seq ?_
  refine aw_region ?_
  refine awl_runp 1 [0, 1] [] (ob := (True ∧ True)) (st' := (⟨19, [(0, [], .v (.c (.p (.sl (.sl (.int .i64))) sv))), (1, [], .v (.c (.fn fv1 cv1)))], []⟩ : St)) (by kernel_rfl) ⟨trivial, trivial⟩ ?_
  refine awl_nil ?_
  refine thenQ_n ?_
  refine aw_seq ?_
  refine aw_seq ?_
  refine aw_region ?_
  refine awl_runp 3 [0, 1, 7, 8] [] (ob := (True ∧ True ∧ True ∧ True)) (st' := (⟨19, [(0, [], .v (.c (.p (.sl (.sl (.int .i64))) sv))), (1, [], .v (.c (.fn fv1 cv1))), (7, [], .v (.c (.p (.int .i64) (sv.length : Int)))), (8, [], .v (.c (.p (.int .i64) (0 : Int))))], []⟩ : St)) (by kernel_rfl) ⟨trivial, trivial, trivial, trivial⟩ ?_
  refine awl_nil ?_
  refine thenQ_n ?_
  refine withJoin (σ := Unit) (fun s => (⟨19, [], []⟩ : St)) (fun s => VC100_k1 K) (fun s h => ?_) (fun rest1 => ?_)
  · have h : VC100_k1 K := h
    unfold VC100_k1 at h
    refine thenQ_n ?_
    refine aw_seq ?_
    refine aw_region ?_
    refine awl_runp 1 [4] [] (ob := (True ∧ True)) (st' := (⟨19, [(4, [], .v (.c (.p (.int .i64) (-1 : Int))))], []⟩ : St)) (by kernel_rfl) ⟨trivial, trivial⟩ ?_
    refine awl_nil ?_
    refine thenQ_n ?_
    refine aw_ret ?_
    exact retQ_r (σ := Int) (R := (fun y => [toV1 (.int .i64) y])) (ob := (True ∧ True)) (-1 : Int) (by kernel_rfl) ⟨trivial, trivial⟩ h
  · refine aw_block ?_
    refine aw_loop (σ := Int) (fun s => (⟨19, [(0, [], .v (.c (.p (.sl (.sl (.int .i64))) sv))), (1, [], .v (.c (.fn fv1 cv1))), (7, [], .v (.c (.p (.int .i64) (sv.length : Int)))), (8, [], .v (.c (.p (.int .i64) s)))], []⟩ : St)) (fun s X => VC100_l1 sv F1 K s X) (s0 := (0 : Int)) (fun v8 X1 h => ?_) h
    have h : VC100_l1 sv F1 K v8 X1 := h
    unfold VC100_l1 at h
    refine aw_seq ?_
    refine aw_region ?_
    refine awl_runp 1 [0, 1, 7, 8, 9] [] (ob := (True ∧ True)) (st' := (⟨19, [(0, [], .v (.c (.p (.sl (.sl (.int .i64))) sv))), (1, [], .v (.c (.fn fv1 cv1))), (7, [], .v (.c (.p (.int .i64) (sv.length : Int)))), (8, [], .v (.c (.p (.int .i64) v8))), (9, [], .v (.c (.p .bool (decide (v8 < (sv.length : Int))))))], []⟩ : St)) (by kernel_rfl) ⟨trivial, trivial⟩ ?_
    refine awl_nil ?_
    refine thenQ_n ?_
    refine aw_seq ?_
    refine aw_cond (b := (decide (v8 < (sv.length : Int)))) (by kernel_rfl) (fun hb => ?_) (fun hb => ?_)
    · have h := h.1 hb
      refine aw_skip ?_
      refine thenQ_n ?_
      refine aw_seq ?_
      refine aw_block ?_
      refine aw_seq ?_
      refine aw_region ?_
      refine awl_runp 2 [0, 1, 5, 7, 8] [] (ob := (True ∧ True ∧ True)) (st' := (⟨19, [(0, [], .v (.c (.p (.sl (.sl (.int .i64))) sv))), (1, [], .v (.c (.fn fv1 cv1))), (5, [], .v (.c (.p (.int .i64) v8))), (7, [], .v (.c (.p (.int .i64) (sv.length : Int)))), (8, [], .v (.c (.p (.int .i64) v8)))], []⟩ : St)) (by kernel_rfl) ⟨trivial, trivial, trivial⟩ ?_
      refine awl_nil ?_
      refine thenQ_n ?_
      refine aw_seq ?_
      refine aw_region ?_
      obtain ⟨o1, h⟩ := h
      refine awl_runp 5 [0, 1, 5, 7, 8, 11, 15] [] (ob := (True ∧ True ∧ True ∧ inIdx v8 sv.length ∧ True ∧ True)) (st' := (⟨19, [(0, [], .v (.c (.p (.sl (.sl (.int .i64))) sv))), (1, [], .v (.c (.fn fv1 cv1))), (5, [], .v (.c (.p (.int .i64) v8))), (7, [], .v (.c (.p (.int .i64) (sv.length : Int)))), (8, [], .v (.c (.p (.int .i64) v8))), (11, [], .v (.c (.fn fv1 cv1))), (15, [], .v (.c (.p (.sl (.int .i64)) (sv.getD (v8).toNat ([] : (List Int))))))], []⟩ : St)) (by kernel_rfl) ⟨trivial, trivial, trivial, o1, trivial, trivial⟩ ?_
      refine awl_callk (p := []) (l := [toV1 (.sl (.int .i64)) (sv.getD (v8).toNat ([] : (List Int)))]) false [.d (.sl (.int .i64))] [0, 1, 5, 7, 8, 16] [] (fun (ret16v : Bool) => ((ret16v = true → K v8) ∧ (ret16v = false → (InR (v8 + (1 : Int)) ∧ X1 (v8 + (1 : Int)))))) (fun ret16v => [toV1 .bool ret16v]) (fun ret16v => (⟨19, [(0, [], .v (.c (.p (.sl (.sl (.int .i64))) sv))), (1, [], .v (.c (.fn fv1 cv1))), (5, [], .v (.c (.p (.int .i64) v8))), (7, [], .v (.c (.p (.int .i64) (sv.length : Int)))), (8, [], .v (.c (.p (.int .i64) v8))), (16, [], .v (.c (.p .bool ret16v)))], []⟩ : St)) (by kernel_rfl) rfl (by kernel_rfl) rfl (by kernel_rfl) hF1.1 (by kernel_rfl) (fun ret16v => by kernel_rfl) (fun e => by cases e) (fun hg => hF1.2 (sv.getD (v8).toNat ([] : (List Int))) _ h) (fun hg => noF hg) (fun ret16v h => ?_)
      have h : ((ret16v = true → K v8) ∧ (ret16v = false → (InR (v8 + (1 : Int)) ∧ X1 (v8 + (1 : Int))))) := h
      refine awl_nil ?_
      refine thenQ_n ?_
      refine aw_cond (b := ret16v) (by kernel_rfl) (fun hb => ?_) (fun hb => ?_)
      · have h := h.1 hb
        refine aw_seq ?_
        refine aw_region ?_
        refine awl_runp 2 [4] [] (ob := (True ∧ True ∧ True)) (st' := (⟨19, [(4, [], .v (.c (.p (.int .i64) v8)))], []⟩ : St)) (by kernel_rfl) ⟨trivial, trivial, trivial⟩ ?_
        refine awl_nil ?_
        refine thenQ_n ?_
        refine aw_ret ?_
        refine blockQ_r ?_
        refine thenQ_r ?_
        refine thenQ_r ?_
        refine blockQ_r ?_
        refine thenQ_r ?_
        exact retQ_r (σ := Int) (R := (fun y => [toV1 (.int .i64) y])) (ob := (True ∧ True)) v8 (by kernel_rfl) ⟨trivial, trivial⟩ h
      · have h := h.2 hb
        refine aw_skip ?_
        refine blockQ_n ?_
        refine thenQ_n ?_
        refine aw_region ?_
        obtain ⟨o1, h⟩ := h
        refine awl_runp 2 [0, 1, 7, 8] [] (ob := (InR (v8 + (1 : Int)) ∧ True ∧ True)) (st' := (⟨19, [(0, [], .v (.c (.p (.sl (.sl (.int .i64))) sv))), (1, [], .v (.c (.fn fv1 cv1))), (7, [], .v (.c (.p (.int .i64) (sv.length : Int)))), (8, [], .v (.c (.p (.int .i64) (v8 + (1 : Int)))))], []⟩ : St)) (by kernel_rfl) ⟨o1, trivial, trivial⟩ ?_
        refine awl_nil ?_
        exact thenQ_n ⟨(v8 + (1 : Int)), rfl, h⟩
    · have h := h.2 hb
      refine aw_conv [.prune [] []] (st' := (⟨19, [], []⟩ : St)) (by kernel_rfl) ?_
      refine aw_exit ?_
      refine thenQ_x ?_
      refine thenQ_x ?_
      refine blockQ_hit ?_
      exact rest1 () h

-- slices.ContainsFunc[[][]int,[]int]
def VC77 (sv : (List (List Int))) (F1 : (List Int) → (Bool → Prop) → Prop) (K : Bool → Prop) : Prop :=
  VC100 sv F1 (fun (ret7v : Int) => K (decide ((0 : Int) ≤ ret7v)))

set_option maxHeartbeats 4000000 in
theorem link77 (sv : (List (List Int))) (fv1 : FuncId) (cv1 : List Dat) (F1 : (List Int) → (Bool → Prop) → Prop) (hF1 : FnIs Try.prog fv1 cv1 (fun (x : (List Int)) => [toV1 (.sl (.int .i64)) x]) (fun (y : Bool) => [toV1 .bool y]) F1) (K : Bool → Prop) (h : VC77 sv F1 K) : ACalls Try.prog 77 [toV1 (.sl (.sl (.int .i64))) sv, .c (.fn fv1 cv1)] (fun res => ∃ y, res = (fun y => [toV1 .bool y]) y ∧ K y) := by
  refine acalls_of_aw [.bool] [.t 4] Try.func77 rfl rfl rfl ?_
  unfold VC77 at h
  refine aw_seq ?_
  refine aw_region ?_
  refine awl_runp 1 [0, 1] [] (ob := (True ∧ True)) (st' := (⟨9, [(0, [], .v (.c (.p (.sl (.sl (.int .i64))) sv))), (1, [], .v (.c (.fn fv1 cv1)))], []⟩ : St)) (by kernel_rfl) ⟨trivial, trivial⟩ ?_
  refine awl_nil ?_
  refine thenQ_n ?_
  refine aw_seq ?_
  refine aw_region ?_
  refine awl_runp 2 [5, 6] [] (ob := (True ∧ True ∧ True)) (st' := (⟨9, [(5, [], .v (.c (.p (.sl (.sl (.int .i64))) sv))), (6, [], .v (.c (.fn fv1 cv1)))], []⟩ : St)) (by kernel_rfl) ⟨trivial, trivial, trivial⟩ ?_
  refine awl_callk (p := []) (l := [toV1 (.sl (.sl (.int .i64))) sv, .c (.fn fv1 cv1)]) (cl := []) false [.d (.sl (.sl (.int .i64))), .fn] [7] [] (fun (ret7v : Int) => K (decide ((0 : Int) ≤ ret7v))) (fun ret7v => [toV1 (.int .i64) ret7v]) (fun ret7v => (⟨9, [(7, [], .v (.c (.p (.int .i64) ret7v)))], []⟩ : St)) (by kernel_rfl) rfl (by kernel_rfl) rfl (by kernel_rfl) Try.call100 (by kernel_rfl) (fun ret7v => by kernel_rfl) (fun e => by cases e) (fun hg => link100 sv fv1 cv1 F1 hF1 _ h) (fun hg => noF hg) (fun ret7v h => ?_)
  have h : K (decide ((0 : Int) ≤ ret7v)) := h
  refine awl_runp 2 [4] [] (ob := (True ∧ True ∧ True)) (st' := (⟨9, [(4, [], .v (.c (.p .bool (decide ((0 : Int) ≤ ret7v)))))], []⟩ : St)) (by kernel_rfl) ⟨trivial, trivial, trivial⟩ ?_
  refine awl_nil ?_
  refine thenQ_n ?_
  refine aw_ret ?_
  exact retQ_r (σ := Bool) (R := (fun y => [toV1 .bool y])) (ob := (True ∧ True)) (decide ((0 : Int) ≤ ret7v)) (by kernel_rfl) ⟨trivial, trivial⟩ h

-- coppicer/turner.Check$2
def VC78 (w : (List Int)) (K : Bool → Prop) : Prop :=
  K (decide ((4 : Int) < (w.length : Int)))

set_option maxHeartbeats 4000000 in
theorem link78 (w : (List Int)) (K : Bool → Prop) (h : VC78 w K) : ACalls Try.prog 78 [toV1 (.sl (.int .i64)) w] (fun res => ∃ y, res = (fun y => [toV1 .bool y]) y ∧ K y) := by
  refine acalls_of_aw [.bool] [.t 2] Try.func78 rfl rfl rfl ?_
  unfold VC78 at h
  refine aw_seq ?_
  refine aw_region ?_
  refine awl_runp 1 [0] [] (ob := (True ∧ True)) (st' := (⟨6, [(0, [], .v (.c (.p (.sl (.int .i64)) w)))], []⟩ : St)) (by kernel_rfl) ⟨trivial, trivial⟩ ?_
  refine awl_nil ?_
  refine thenQ_n ?_
  refine aw_seq ?_
  refine aw_region ?_
  refine awl_runp 4 [2] [] (ob := (True ∧ True ∧ True ∧ True ∧ True)) (st' := (⟨6, [(2, [], .v (.c (.p .bool (decide ((4 : Int) < (w.length : Int))))))], []⟩ : St)) (by kernel_rfl) ⟨trivial, trivial, trivial, trivial, trivial⟩ ?_
  refine awl_nil ?_
  refine thenQ_n ?_
  refine aw_ret ?_
  exact retQ_r (σ := Bool) (R := (fun y => [toV1 .bool y])) (ob := (True ∧ True)) (decide ((4 : Int) < (w.length : Int))) (by kernel_rfl) ⟨trivial, trivial⟩ h

-- coppicer/turner.Check$3
def VC80 (n : Int) (a1 : (Int × (Int × (Int × ((List (List Int)) × ((List (List (List Int))) × Int)))))) (K : Bool → Prop) : Prop :=
  K ((decide (n < (0 : Int))) || (decide (a1.1 ≤ n)))

set_option maxHeartbeats 4000000 in
theorem link80 (n : Int) (a1 : (Int × (Int × (Int × ((List (List Int)) × ((List (List (List Int))) × Int)))))) (K : Bool → Prop) (h : VC80 n a1 K) : ACalls Try.prog 80 [toV1 (.int .i64) n, .c (.ad (.pr (.int .i64) (.pr (.int .i64) (.pr (.int .i64) (.pr (.sl (.sl (.int .i64))) (.pr (.sl (.sl (.sl (.int .i64)))) (.int .i64)))))) a1)] (fun res => ∃ y, res = (fun y => [toV1 .bool y]) y ∧ K y) := by
  refine acalls_of_aw [.bool] [.t 3] Try.func80 rfl rfl rfl ?_
  unfold VC80 at h
  refine aw_seq ?_
  refine aw_region ?_
  refine awl_runp 1 [0, 1] [] (ob := (True ∧ True)) (st' := (⟨12, [(0, [], .v (.c (.p (.int .i64) n))), (1, [], .v (.c (.ad (.pr (.int .i64) (.pr (.int .i64) (.pr (.int .i64) (.pr (.sl (.sl (.int .i64))) (.pr (.sl (.sl (.sl (.int .i64)))) (.int .i64)))))) a1)))], []⟩ : St)) (by kernel_rfl) ⟨trivial, trivial⟩ ?_
  refine awl_nil ?_
  refine thenQ_n ?_
  refine aw_seq ?_
  refine aw_region ?_
  refine awl_runp 9 [3] [] (ob := (True ∧ True ∧ True ∧ ((decide (n < (0 : Int))) = false → True) ∧ ((decide (n < (0 : Int))) = false → True) ∧ ((decide (n < (0 : Int))) = false → True) ∧ ((decide (n < (0 : Int))) = false → True) ∧ True ∧ True ∧ True)) (st' := (⟨12, [(3, [], .v (.c (.p .bool ((decide (n < (0 : Int))) || (decide (a1.1 ≤ n))))))], []⟩ : St)) (by kernel_rfl) ⟨trivial, trivial, trivial, (fun _ => trivial), (fun _ => trivial), (fun _ => trivial), (fun _ => trivial), trivial, trivial, trivial⟩ ?_
  refine awl_nil ?_
  refine thenQ_n ?_
  refine aw_ret ?_
  exact retQ_r (σ := Bool) (R := (fun y => [toV1 .bool y])) (ob := (True ∧ True)) ((decide (n < (0 : Int))) || (decide (a1.1 ≤ n))) (by kernel_rfl) ⟨trivial, trivial⟩ h

-- slices.IndexFunc[[]int,int]
def VC55_k1 (K : Int → Prop) : Prop :=
  K (-1 : Int)

def VC55_l1 (sv : (List Int)) (F1 : Int → (Bool → Prop) → Prop) (K : Int → Prop) (v8 : Int) (X1 : Int → Prop) : Prop :=
  (((decide (v8 < (sv.length : Int))) = true → (inIdx v8 sv.length ∧ F1 (sv.getD (v8).toNat (0 : Int)) (fun (ret16v : Bool) => ((ret16v = true → K v8) ∧ (ret16v = false → (InR (v8 + (1 : Int)) ∧ X1 (v8 + (1 : Int)))))))) ∧ ((decide (v8 < (sv.length : Int))) = false → VC55_k1 K))

def VC55 (sv : (List Int)) (F1 : Int → (Bool → Prop) → Prop) (K : Int → Prop) : Prop :=
  Loop (σ := Int) (fun s X => VC55_l1 sv F1 K s X) (0 : Int)

set_option maxHeartbeats 4000000 in
theorem link55 (sv : (List Int)) (fv1 : FuncId) (cv1 : List Dat) (F1 : Int → (Bool → Prop) → Prop) (hF1 : FnIs Try.prog fv1 cv1 (fun (x : Int) => [toV1 (.int .i64) x]) (fun (y : Bool) => [toV1 .bool y]) F1) (K : Int → Prop) (h : VC55 sv F1 K) : ACalls Try.prog 55 [toV1 (.sl (.int .i64)) sv, .c (.fn fv1 cv1)] (fun res => ∃ y, res = (fun y => [toV1 (.int .i64) y]) y ∧ K y) := by
  refine acalls_of_aw [(.int .i64)] [.t 4] Try.func55 rfl rfl rfl ?_
  unfold VC55 at h
  refine aw_seq ?_
  refine aw_region ?_
  refine awl_runp 1 [0, 1] [] (ob := (True ∧ True)) (st' := (⟨19, [(0, [], .v (.c (.p (.sl (.int .i64)) sv))), (1, [], .v (.c (.fn fv1 cv1)))], []⟩ : St)) (by kernel_rfl) ⟨trivial, trivial⟩ ?_
  refine awl_nil ?_
  refine thenQ_n ?_
  refine aw_seq ?_
  refine aw_seq ?_
  refine aw_region ?_
  refine awl_runp 3 [0, 1, 7, 8] [] (ob := (True ∧ True ∧ True ∧ True)) (st' := (⟨19, [(0, [], .v (.c (.p (.sl (.int .i64)) sv))), (1, [], .v (.c (.fn fv1 cv1))), (7, [], .v (.c (.p (.int .i64) (sv.length : Int)))), (8, [], .v (.c (.p (.int .i64) (0 : Int))))], []⟩ : St)) (by kernel_rfl) ⟨trivial, trivial, trivial, trivial⟩ ?_
  refine awl_nil ?_
  refine thenQ_n ?_
  refine withJoin (σ := Unit) (fun s => (⟨19, [], []⟩ : St)) (fun s => VC55_k1 K) (fun s h => ?_) (fun rest1 => ?_)
  · have h : VC55_k1 K := h
    unfold VC55_k1 at h
    refine thenQ_n ?_
    refine aw_seq ?_
    refine aw_region ?_
    refine awl_runp 1 [4] [] (ob := (True ∧ True)) (st' := (⟨19, [(4, [], .v (.c (.p (.int .i64) (-1 : Int))))], []⟩ : St)) (by kernel_rfl) ⟨trivial, trivial⟩ ?_
    refine awl_nil ?_
    refine thenQ_n ?_
    refine aw_ret ?_
    exact retQ_r (σ := Int) (R := (fun y => [toV1 (.int .i64) y])) (ob := (True ∧ True)) (-1 : Int) (by kernel_rfl) ⟨trivial, trivial⟩ h
  · refine aw_block ?_
    refine aw_loop (σ := Int) (fun s => (⟨19, [(0, [], .v (.c (.p (.sl (.int .i64)) sv))), (1, [], .v (.c (.fn fv1 cv1))), (7, [], .v (.c (.p (.int .i64) (sv.length : Int)))), (8, [], .v (.c (.p (.int .i64) s)))], []⟩ : St)) (fun s X => VC55_l1 sv F1 K s X) (s0 := (0 : Int)) (fun v8 X1 h => ?_) h
    have h : VC55_l1 sv F1 K v8 X1 := h
    unfold VC55_l1 at h
    refine aw_seq ?_
    refine aw_region ?_
    refine awl_runp 1 [0, 1, 7, 8, 9] [] (ob := (True ∧ True)) (st' := (⟨19, [(0, [], .v (.c (.p (.sl (.int .i64)) sv))), (1, [], .v (.c (.fn fv1 cv1))), (7, [], .v (.c (.p (.int .i64) (sv.length : Int)))), (8, [], .v (.c (.p (.int .i64) v8))), (9, [], .v (.c (.p .bool (decide (v8 < (sv.length : Int))))))], []⟩ : St)) (by kernel_rfl) ⟨trivial, trivial⟩ ?_
    refine awl_nil ?_
    refine thenQ_n ?_
    refine aw_seq ?_
    refine aw_cond (b := (decide (v8 < (sv.length : Int)))) (by kernel_rfl) (fun hb => ?_) (fun hb => ?_)
    · have h := h.1 hb
      refine aw_skip ?_
      refine thenQ_n ?_
      refine aw_seq ?_
      refine aw_block ?_
      refine aw_seq ?_
      refine aw_region ?_
      refine awl_runp 2 [0, 1, 5, 7, 8] [] (ob := (True ∧ True ∧ True)) (st' := (⟨19, [(0, [], .v (.c (.p (.sl (.int .i64)) sv))), (1, [], .v (.c (.fn fv1 cv1))), (5, [], .v (.c (.p (.int .i64) v8))), (7, [], .v (.c (.p (.int .i64) (sv.length : Int)))), (8, [], .v (.c (.p (.int .i64) v8)))], []⟩ : St)) (by kernel_rfl) ⟨trivial, trivial, trivial⟩ ?_
      refine awl_nil ?_
      refine thenQ_n ?_
      refine aw_seq ?_
      refine aw_region ?_
      obtain ⟨o1, h⟩ := h
      refine awl_runp 5 [0, 1, 5, 7, 8, 11, 15] [] (ob := (True ∧ True ∧ True ∧ inIdx v8 sv.length ∧ True ∧ True)) (st' := (⟨19, [(0, [], .v (.c (.p (.sl (.int .i64)) sv))), (1, [], .v (.c (.fn fv1 cv1))), (5, [], .v (.c (.p (.int .i64) v8))), (7, [], .v (.c (.p (.int .i64) (sv.length : Int)))), (8, [], .v (.c (.p (.int .i64) v8))), (11, [], .v (.c (.fn fv1 cv1))), (15, [], .v (.c (.p (.int .i64) (sv.getD (v8).toNat (0 : Int)))))], []⟩ : St)) (by kernel_rfl) ⟨trivial, trivial, trivial, o1, trivial, trivial⟩ ?_
      refine awl_callk (p := []) (l := [toV1 (.int .i64) (sv.getD (v8).toNat (0 : Int))]) false [.d (.int .i64)] [0, 1, 5, 7, 8, 16] [] (fun (ret16v : Bool) => ((ret16v = true → K v8) ∧ (ret16v = false → (InR (v8 + (1 : Int)) ∧ X1 (v8 + (1 : Int)))))) (fun ret16v => [toV1 .bool ret16v]) (fun ret16v => (⟨19, [(0, [], .v (.c (.p (.sl (.int .i64)) sv))), (1, [], .v (.c (.fn fv1 cv1))), (5, [], .v (.c (.p (.int .i64) v8))), (7, [], .v (.c (.p (.int .i64) (sv.length : Int)))), (8, [], .v (.c (.p (.int .i64) v8))), (16, [], .v (.c (.p .bool ret16v)))], []⟩ : St)) (by kernel_rfl) rfl (by kernel_rfl) rfl (by kernel_rfl) hF1.1 (by kernel_rfl) (fun ret16v => by kernel_rfl) (fun e => by cases e) (fun hg => hF1.2 (sv.getD (v8).toNat (0 : Int)) _ h) (fun hg => noF hg) (fun ret16v h => ?_)
      have h : ((ret16v = true → K v8) ∧ (ret16v = false → (InR (v8 + (1 : Int)) ∧ X1 (v8 + (1 : Int))))) := h
      refine awl_nil ?_
      refine thenQ_n ?_
      refine aw_cond (b := ret16v) (by kernel_rfl) (fun hb => ?_) (fun hb => ?_)
      · have h := h.1 hb
        refine aw_seq ?_
        refine aw_region ?_
        refine awl_runp 2 [4] [] (ob := (True ∧ True ∧ True)) (st' := (⟨19, [(4, [], .v (.c (.p (.int .i64) v8)))], []⟩ : St)) (by kernel_rfl) ⟨trivial, trivial, trivial⟩ ?_
        refine awl_nil ?_
        refine thenQ_n ?_
        refine aw_ret ?_
        refine blockQ_r ?_
        refine thenQ_r ?_
        refine thenQ_r ?_
        refine blockQ_r ?_
        refine thenQ_r ?_
        exact retQ_r (σ := Int) (R := (fun y => [toV1 (.int .i64) y])) (ob := (True ∧ True)) v8 (by kernel_rfl) ⟨trivial, trivial⟩ h
      · have h := h.2 hb
        refine aw_skip ?_
        refine blockQ_n ?_
        refine thenQ_n ?_
        refine aw_region ?_
        obtain ⟨o1, h⟩ := h
        refine awl_runp 2 [0, 1, 7, 8] [] (ob := (InR (v8 + (1 : Int)) ∧ True ∧ True)) (st' := (⟨19, [(0, [], .v (.c (.p (.sl (.int .i64)) sv))), (1, [], .v (.c (.fn fv1 cv1))), (7, [], .v (.c (.p (.int .i64) (sv.length : Int)))), (8, [], .v (.c (.p (.int .i64) (v8 + (1 : Int)))))], []⟩ : St)) (by kernel_rfl) ⟨o1, trivial, trivial⟩ ?_
        refine awl_nil ?_
        exact thenQ_n ⟨(v8 + (1 : Int)), rfl, h⟩
    · have h := h.2 hb
      refine aw_conv [.prune [] []] (st' := (⟨19, [], []⟩ : St)) (by kernel_rfl) ?_
      refine aw_exit ?_
      refine thenQ_x ?_
      refine thenQ_x ?_
      refine blockQ_hit ?_
      exact rest1 () h

-- slices.ContainsFunc[[]int,int]
def VC79 (sv : (List Int)) (F1 : Int → (Bool → Prop) → Prop) (K : Bool → Prop) : Prop :=
  VC55 sv F1 (fun (ret7v : Int) => K (decide ((0 : Int) ≤ ret7v)))

set_option maxHeartbeats 4000000 in
theorem link79 (sv : (List Int)) (fv1 : FuncId) (cv1 : List Dat) (F1 : Int → (Bool → Prop) → Prop) (hF1 : FnIs Try.prog fv1 cv1 (fun (x : Int) => [toV1 (.int .i64) x]) (fun (y : Bool) => [toV1 .bool y]) F1) (K : Bool → Prop) (h : VC79 sv F1 K) : ACalls Try.prog 79 [toV1 (.sl (.int .i64)) sv, .c (.fn fv1 cv1)] (fun res => ∃ y, res = (fun y => [toV1 .bool y]) y ∧ K y) := by
  refine acalls_of_aw [.bool] [.t 4] Try.func79 rfl rfl rfl ?_
  unfold VC79 at h
  refine aw_seq ?_
  refine aw_region ?_
  refine awl_runp 1 [0, 1] [] (ob := (True ∧ True)) (st' := (⟨9, [(0, [], .v (.c (.p (.sl (.int .i64)) sv))), (1, [], .v (.c (.fn fv1 cv1)))], []⟩ : St)) (by kernel_rfl) ⟨trivial, trivial⟩ ?_
  refine awl_nil ?_
  refine thenQ_n ?_
  refine aw_seq ?_
  refine aw_region ?_
  refine awl_runp 2 [5, 6] [] (ob := (True ∧ True ∧ True)) (st' := (⟨9, [(5, [], .v (.c (.p (.sl (.int .i64)) sv))), (6, [], .v (.c (.fn fv1 cv1)))], []⟩ : St)) (by kernel_rfl) ⟨trivial, trivial, trivial⟩ ?_
  refine awl_callk (p := []) (l := [toV1 (.sl (.int .i64)) sv, .c (.fn fv1 cv1)]) (cl := []) false [.d (.sl (.int .i64)), .fn] [7] [] (fun (ret7v : Int) => K (decide ((0 : Int) ≤ ret7v))) (fun ret7v => [toV1 (.int .i64) ret7v]) (fun ret7v => (⟨9, [(7, [], .v (.c (.p (.int .i64) ret7v)))], []⟩ : St)) (by kernel_rfl) rfl (by kernel_rfl) rfl (by kernel_rfl) Try.call55 (by kernel_rfl) (fun ret7v => by kernel_rfl) (fun e => by cases e) (fun hg => link55 sv fv1 cv1 F1 hF1 _ h) (fun hg => noF hg) (fun ret7v h => ?_)
  have h : K (decide ((0 : Int) ≤ ret7v)) := h
  refine awl_runp 2 [4] [] (ob := (True ∧ True ∧ True)) (st' := (⟨9, [(4, [], .v (.c (.p .bool (decide ((0 : Int) ≤ ret7v)))))], []⟩ : St)) (by kernel_rfl) ⟨trivial, trivial, trivial⟩ ?_
  refine awl_nil ?_
  refine thenQ_n ?_
  refine aw_ret ?_
  exact retQ_r (σ := Bool) (R := (fun y => [toV1 .bool y])) (ob := (True ∧ True)) (decide ((0 : Int) ≤ ret7v)) (by kernel_rfl) ⟨trivial, trivial⟩ h

-- coppicer/machine.within
def VC82 (n : Int) (low : Int) (high : Int) (K : Bool → Prop) : Prop :=
  K ((decide (low ≤ n)) && (decide (n ≤ high)))

set_option maxHeartbeats 4000000 in
theorem link82 (n : Int) (low : Int) (high : Int) (K : Bool → Prop) (h : VC82 n low high K) : ACalls Try.prog 82 [toV1 (.int .i64) n, toV1 (.int .i64) low, toV1 (.int .i64) high] (fun res => ∃ y, res = (fun y => [toV1 .bool y]) y ∧ K y) := by
  refine acalls_of_aw [.bool] [.t 6] Try.func82 rfl rfl rfl ?_
  unfold VC82 at h
  refine aw_seq ?_
  refine aw_region ?_
  refine awl_runp 1 [0, 1, 2] [] (ob := (True ∧ True)) (st' := (⟨15, [(0, [], .v (.c (.p (.int .i64) n))), (1, [], .v (.c (.p (.int .i64) low))), (2, [], .v (.c (.p (.int .i64) high)))], []⟩ : St)) (by kernel_rfl) ⟨trivial, trivial⟩ ?_
  refine awl_nil ?_
  refine thenQ_n ?_
  refine aw_seq ?_
  refine aw_region ?_
  refine awl_runp 9 [6] [] (ob := (True ∧ True ∧ True ∧ True ∧ ((decide (low ≤ n)) = true → True) ∧ ((decide (low ≤ n)) = true → True) ∧ ((decide (low ≤ n)) = true → True) ∧ True ∧ True ∧ True)) (st' := (⟨15, [(6, [], .v (.c (.p .bool ((decide (low ≤ n)) && (decide (n ≤ high))))))], []⟩ : St)) (by kernel_rfl) ⟨trivial, trivial, trivial, trivial, (fun _ => trivial), (fun _ => trivial), (fun _ => trivial), trivial, trivial, trivial⟩ ?_
  refine awl_nil ?_
  refine thenQ_n ?_
  refine aw_ret ?_
  exact retQ_r (σ := Bool) (R := (fun y => [toV1 .bool y])) (ob := (True ∧ True)) ((decide (low ≤ n)) && (decide (n ≤ high))) (by kernel_rfl) ⟨trivial, trivial⟩ h

-- coppicer/machine.Word$1
def VC81 (sv : Int) (a1 : Int) (K : Bool → Prop) : Prop :=
  (InR (a1 - (1 : Int)) ∧ VC82 sv (0 : Int) (a1 - (1 : Int)) (fun (ret7v : Bool) => K (!ret7v)))

set_option maxHeartbeats 4000000 in
theorem link81 (sv : Int) (a1 : Int) (K : Bool → Prop) (h : VC81 sv a1 K) : ACalls Try.prog 81 [toV1 (.int .i64) sv, .c (.ad (.int .i64) a1)] (fun res => ∃ y, res = (fun y => [toV1 .bool y]) y ∧ K y) := by
  refine acalls_of_aw [.bool] [.t 3] Try.func81 rfl rfl rfl ?_
  unfold VC81 at h
  refine aw_seq ?_
  refine aw_region ?_
  refine awl_runp 1 [0, 1] [] (ob := (True ∧ True)) (st' := (⟨9, [(0, [], .v (.c (.p (.int .i64) sv))), (1, [], .v (.c (.ad (.int .i64) a1)))], []⟩ : St)) (by kernel_rfl) ⟨trivial, trivial⟩ ?_
  refine awl_nil ?_
  refine thenQ_n ?_
  refine aw_seq ?_
  refine aw_region ?_
  obtain ⟨o1, h⟩ := h
  refine awl_runp 3 [4, 6] [] (ob := (True ∧ True ∧ InR (a1 - (1 : Int)) ∧ True)) (st' := (⟨9, [(4, [], .v (.c (.p (.int .i64) sv))), (6, [], .v (.c (.p (.int .i64) (a1 - (1 : Int)))))], []⟩ : St)) (by kernel_rfl) ⟨trivial, trivial, o1, trivial⟩ ?_
  refine awl_callk (p := []) (l := [toV1 (.int .i64) sv, toV1 (.int .i64) (0 : Int), toV1 (.int .i64) (a1 - (1 : Int))]) (cl := []) false [.d (.int .i64), .d (.int .i64), .d (.int .i64)] [7] [] (fun (ret7v : Bool) => K (!ret7v)) (fun ret7v => [toV1 .bool ret7v]) (fun ret7v => (⟨9, [(7, [], .v (.c (.p .bool ret7v)))], []⟩ : St)) (by kernel_rfl) rfl (by kernel_rfl) rfl (by kernel_rfl) Try.call82 (by kernel_rfl) (fun ret7v => by kernel_rfl) (fun e => by cases e) (fun hg => link82 sv (0 : Int) (a1 - (1 : Int)) _ h) (fun hg => noF hg) (fun ret7v h => ?_)
  have h : K (!ret7v) := h
  refine awl_runp 2 [3] [] (ob := (True ∧ True ∧ True)) (st' := (⟨9, [(3, [], .v (.c (.p .bool (!ret7v))))], []⟩ : St)) (by kernel_rfl) ⟨trivial, trivial, trivial⟩ ?_
  refine awl_nil ?_
  refine thenQ_n ?_
  refine aw_ret ?_
  exact retQ_r (σ := Bool) (R := (fun y => [toV1 .bool y])) (ob := (True ∧ True)) (!ret7v) (by kernel_rfl) ⟨trivial, trivial⟩ h

-- coppicer/machine.Word
def VC40 (k : Int) (w : (List Int)) (K : Int → Prop) : Prop :=
  (((decide ((12 : Int) < (w.length : Int))) = true → K (1 : Int)) ∧ ((decide ((12 : Int) < (w.length : Int))) = false → VC79 w (fun (x : Int) (K : Bool → Prop) => VC81 x k K) (fun (ret10v : Bool) => ((ret10v = true → K (2 : Int)) ∧ (ret10v = false → K (0 : Int))))))

set_option maxHeartbeats 4000000 in
theorem link40 (k : Int) (w : (List Int)) (K : Int → Prop) (h : VC40 k w K) : ACalls Try.prog 40 [toV1 (.int .i64) k, toV1 (.sl (.int .i64)) w] (fun res => ∃ y, res = (fun y => [toV1 (.int .i64) y]) y ∧ K y) := by
  refine acalls_of_aw [(.int .i64)] [.t 4] Try.func40 rfl rfl rfl ?_
  unfold VC40 at h
  refine aw_seq ?_
  refine aw_region ?_
  refine awl_runp 2 [1, 2] [2] (ob := (True ∧ True ∧ True)) (st' := (⟨11, [(1, [], .v (.c (.p (.sl (.int .i64)) w))), (2, [], .v (.c (.ptr 2 0)))], [(2, [], .box [.p (.int .i64) k])]⟩ : St)) (by kernel_rfl) ⟨trivial, trivial, trivial⟩ ?_
  refine awl_nil ?_
  refine thenQ_n ?_
  refine aw_seq ?_
  refine aw_seq ?_
  refine aw_region ?_
  refine awl_runp 3 [1, 2, 7] [2] (ob := (True ∧ True ∧ True ∧ True)) (st' := (⟨11, [(1, [], .v (.c (.p (.sl (.int .i64)) w))), (2, [], .v (.c (.ptr 2 0))), (7, [], .v (.c (.p .bool (decide ((12 : Int) < (w.length : Int))))))], [(2, [], .box [.p (.int .i64) k])]⟩ : St)) (by kernel_rfl) ⟨trivial, trivial, trivial, trivial⟩ ?_
  refine awl_nil ?_
  refine thenQ_n ?_
  refine aw_cond (b := (decide ((12 : Int) < (w.length : Int)))) (by kernel_rfl) (fun hb => ?_) (fun hb => ?_)
  · have h := h.1 hb
    refine aw_seq ?_
    refine aw_region ?_
    refine awl_runp 1 [4] [] (ob := (True ∧ True)) (st' := (⟨11, [(4, [], .v (.c (.p (.int .i64) (1 : Int))))], []⟩ : St)) (by kernel_rfl) ⟨trivial, trivial⟩ ?_
    refine awl_nil ?_
    refine thenQ_n ?_
    refine aw_ret ?_
    refine thenQ_r ?_
    exact retQ_r (σ := Int) (R := (fun y => [toV1 (.int .i64) y])) (ob := (True ∧ True)) (1 : Int) (by kernel_rfl) ⟨trivial, trivial⟩ h
  · have h := h.2 hb
    refine aw_skip ?_
    refine thenQ_n ?_
    refine aw_seq ?_
    refine aw_seq ?_
    refine aw_region ?_
    refine awl_runp 1 [2, 8] [2] (ob := (True ∧ True)) (st' := (⟨11, [(2, [], .v (.c (.ptr 2 0))), (8, [], .v (.c (.p (.sl (.int .i64)) w)))], [(2, [], .box [.p (.int .i64) k])]⟩ : St)) (by kernel_rfl) ⟨trivial, trivial⟩ ?_
    refine awl_conv [.freezeB 2 (.int .i64)] (st' := (⟨11, [(2, [], .v (.c (.ad (.int .i64) k))), (8, [], .v (.c (.p (.sl (.int .i64)) w)))], []⟩ : St)) (by kernel_rfl) ?_
    refine awl_runp 1 [8, 9] [] (ob := (True ∧ True)) (st' := (⟨11, [(8, [], .v (.c (.p (.sl (.int .i64)) w))), (9, [], .v (.c (.fn 81 [(⟨(.int .i64), k⟩ : Dat)])))], []⟩ : St)) (by kernel_rfl) ⟨trivial, trivial⟩ ?_
    refine awl_callk (p := []) (l := [toV1 (.sl (.int .i64)) w, .c (.fn 81 [(⟨(.int .i64), k⟩ : Dat)])]) (cl := []) false [.d (.sl (.int .i64)), .fn] [10] [] (fun (ret10v : Bool) => ((ret10v = true → K (2 : Int)) ∧ (ret10v = false → K (0 : Int)))) (fun ret10v => [toV1 .bool ret10v]) (fun ret10v => (⟨11, [(10, [], .v (.c (.p .bool ret10v)))], []⟩ : St)) (by kernel_rfl) rfl (by kernel_rfl) rfl (by kernel_rfl) Try.call79 (by kernel_rfl) (fun ret10v => by kernel_rfl) (fun e => by cases e) (fun hg => link79 w 81 [(⟨(.int .i64), k⟩ : Dat)] (fun (x : Int) (K : Bool → Prop) => VC81 x k K) ⟨Try.call81, fun x K h => link81 x k K h⟩ _ h) (fun hg => noF hg) (fun ret10v h => ?_)
    have h : ((ret10v = true → K (2 : Int)) ∧ (ret10v = false → K (0 : Int))) := h
    refine awl_nil ?_
    refine thenQ_n ?_
    refine aw_cond (b := ret10v) (by kernel_rfl) (fun hb => ?_) (fun hb => ?_)
    · have h := h.1 hb
      refine aw_seq ?_
      refine aw_region ?_
      refine awl_runp 1 [4] [] (ob := (True ∧ True)) (st' := (⟨11, [(4, [], .v (.c (.p (.int .i64) (2 : Int))))], []⟩ : St)) (by kernel_rfl) ⟨trivial, trivial⟩ ?_
      refine awl_nil ?_
      refine thenQ_n ?_
      refine aw_ret ?_
      refine thenQ_r ?_
      exact retQ_r (σ := Int) (R := (fun y => [toV1 (.int .i64) y])) (ob := (True ∧ True)) (2 : Int) (by kernel_rfl) ⟨trivial, trivial⟩ h
    · have h := h.2 hb
      refine aw_skip ?_
      refine thenQ_n ?_
      refine aw_seq ?_
      refine aw_region ?_
      refine awl_runp 1 [4] [] (ob := (True ∧ True)) (st' := (⟨11, [(4, [], .v (.c (.p (.int .i64) (0 : Int))))], []⟩ : St)) (by kernel_rfl) ⟨trivial, trivial⟩ ?_
      refine awl_nil ?_
      refine thenQ_n ?_
      refine aw_ret ?_
      exact retQ_r (σ := Int) (R := (fun y => [toV1 (.int .i64) y])) (ob := (True ∧ True)) (0 : Int) (by kernel_rfl) ⟨trivial, trivial⟩ h

-- coppicer/turner.Check
def VC39_k3 (K : Int → Prop) : Prop :=
  K (0 : Int)

def VC39_k4 (v91 : Int) (X1 : Int → Prop) : Prop :=
  (InR (v91 + (1 : Int)) ∧ X1 (v91 + (1 : Int)))

def VC39_l2 (tv : (Int × (Int × (Int × ((List (List Int)) × ((List (List (List Int))) × Int)))))) (K : Int → Prop) (v91 : Int) (X1 : Int → Prop) (v107 : Int) (X2 : Int → Prop) : Prop :=
  (((decide (v107 < ((tv.2.2.2.2.1.getD (v91).toNat ([] : (List (List Int)))).length : Int))) = true → (inIdx v107 (tv.2.2.2.2.1.getD (v91).toNat ([] : (List (List Int)))).length ∧ VC40 tv.2.2.1 ((tv.2.2.2.2.1.getD (v91).toNat ([] : (List (List Int)))).getD (v107).toNat ([] : (List Int))) (fun (ret114v : Int) => (((!decide (ret114v = (0 : Int))) = true → K (2 : Int)) ∧ ((!decide (ret114v = (0 : Int))) = false → (InR (v107 + (1 : Int)) ∧ X2 (v107 + (1 : Int)))))))) ∧ ((decide (v107 < ((tv.2.2.2.2.1.getD (v91).toNat ([] : (List (List Int)))).length : Int))) = false → VC39_k4 v91 X1))

def VC39_l1 (tv : (Int × (Int × (Int × ((List (List Int)) × ((List (List (List Int))) × Int)))))) (K : Int → Prop) (v91 : Int) (X1 : Int → Prop) : Prop :=
  (((decide (v91 < tv.1)) = true → (inIdx v91 tv.2.2.2.1.length ∧ VC79 (tv.2.2.2.1.getD (v91).toNat ([] : (List Int))) (fun (x : Int) (K : Bool → Prop) => VC80 x tv K) (fun (ret100v : Bool) => ((ret100v = true → K (2 : Int)) ∧ (ret100v = false → (inIdx v91 tv.2.2.2.2.1.length ∧ Loop (σ := Int) (fun s X => VC39_l2 tv K v91 X1 s X) (0 : Int))))))) ∧ ((decide (v91 < tv.1)) = false → VC39_k3 K))

def VC39_k2 (tv : (Int × (Int × (Int × ((List (List Int)) × ((List (List (List Int))) × Int)))))) (K : Int → Prop) : Prop :=
  ((((decide (tv.2.2.2.2.2 < (0 : Int))) || (decide (tv.1 ≤ tv.2.2.2.2.2))) = true → K (2 : Int)) ∧ (((decide (tv.2.2.2.2.2 < (0 : Int))) || (decide (tv.1 ≤ tv.2.2.2.2.2))) = false → Loop (σ := Int) (fun s X => VC39_l1 tv K s X) (0 : Int)))

def VC39_l3 (tv : (Int × (Int × (Int × ((List (List Int)) × ((List (List (List Int))) × Int)))))) (K : Int → Prop) (v72 : Int) (X3 : Int → Prop) : Prop :=
  (((decide (v72 < (tv.2.2.2.2.1.length : Int))) = true → (inIdx v72 tv.2.2.2.2.1.length ∧ VC77 (tv.2.2.2.2.1.getD (v72).toNat ([] : (List (List Int)))) (fun (x : (List Int)) (K : Bool → Prop) => VC78 x K) (fun (ret77v : Bool) => ((ret77v = true → K (1 : Int)) ∧ (ret77v = false → (InR (v72 + (1 : Int)) ∧ X3 (v72 + (1 : Int)))))))) ∧ ((decide (v72 < (tv.2.2.2.2.1.length : Int))) = false → VC39_k2 tv K))

def VC39_k1 (tv : (Int × (Int × (Int × ((List (List Int)) × ((List (List (List Int))) × Int)))))) (K : Int → Prop) : Prop :=
  Loop (σ := Int) (fun s X => VC39_l3 tv K s X) (0 : Int)

def VC39_l4 (tv : (Int × (Int × (Int × ((List (List Int)) × ((List (List (List Int))) × Int)))))) (K : Int → Prop) (v45 : Int) (X4 : Int → Prop) : Prop :=
  (((decide (v45 < tv.1)) = true → (inIdx v45 tv.2.2.2.1.length ∧ ((!decide (((tv.2.2.2.1.getD (v45).toNat ([] : (List Int))).length : Int) = tv.2.1)) = false → inIdx v45 tv.2.2.2.2.1.length) ∧ ((((!decide (((tv.2.2.2.1.getD (v45).toNat ([] : (List Int))).length : Int) = tv.2.1)) || (!decide (((tv.2.2.2.2.1.getD (v45).toNat ([] : (List (List Int)))).length : Int) = tv.2.1))) = true → K (3 : Int)) ∧ (((!decide (((tv.2.2.2.1.getD (v45).toNat ([] : (List Int))).length : Int) = tv.2.1)) || (!decide (((tv.2.2.2.2.1.getD (v45).toNat ([] : (List (List Int)))).length : Int) = tv.2.1))) = false → (InR (v45 + (1 : Int)) ∧ X4 (v45 + (1 : Int))))))) ∧ ((decide (v45 < tv.1)) = false → VC39_k1 tv K))

def VC39 (tv : (Int × (Int × (Int × ((List (List Int)) × ((List (List (List Int))) × Int)))))) (K : Int → Prop) : Prop :=
  VC76 tv.1 (7 : Int) (fun (ret13v : Bool) => gcall (α := Bool) (!(!ret13v)) (VC76 tv.2.1 (3 : Int)) false (fun (ret19v : Bool) => gcall (α := Bool) (!((!ret13v) || (!ret19v))) (VC76 tv.2.2.1 (3 : Int)) false (fun (ret26v : Bool) => (((((!ret13v) || (!ret19v)) || (!ret26v)) = true → K (1 : Int)) ∧ ((((!ret13v) || (!ret19v)) || (!ret26v)) = false → ((((!decide ((tv.2.2.2.1.length : Int) = tv.1)) || (!decide ((tv.2.2.2.2.1.length : Int) = tv.1))) = true → K (3 : Int)) ∧ (((!decide ((tv.2.2.2.1.length : Int) = tv.1)) || (!decide ((tv.2.2.2.2.1.length : Int) = tv.1))) = false → Loop (σ := Int) (fun s X => VC39_l4 tv K s X) (0 : Int))))))))

set_option maxHeartbeats 4000000 in
theorem link39 (tv : (Int × (Int × (Int × ((List (List Int)) × ((List (List (List Int))) × Int)))))) (K : Int → Prop) (h : VC39 tv K) : ACalls Try.prog 39 [toV1 (.pr (.int .i64) (.pr (.int .i64) (.pr (.int .i64) (.pr (.sl (.sl (.int .i64))) (.pr (.sl (.sl (.sl (.int .i64)))) (.int .i64)))))) tv] (fun res => ∃ y, res = (fun y => [toV1 (.int .i64) y]) y ∧ K y) := by
  refine acalls_of_aw [(.int .i64)] [.t 2] Try.func39 rfl rfl rfl ?_
  unfold VC39 at h
  refine aw_seq ?_
  refine aw_region ?_
  refine awl_runp 2 [1] [1] (ob := (True ∧ True ∧ True)) (st' := (⟨118, [(1, [], .v (.c (.ptr 1 0)))], [(1, [], .box [.p (.int .i64) tv.1, .p (.int .i64) tv.2.1, .p (.int .i64) tv.2.2.1, .p (.sl (.sl (.int .i64))) tv.2.2.2.1, .p (.sl (.sl (.sl (.int .i64)))) tv.2.2.2.2.1, .p (.int .i64) tv.2.2.2.2.2])]⟩ : St)) (by kernel_rfl) ⟨trivial, trivial, trivial⟩ ?_
  refine awl_nil ?_
  refine thenQ_n ?_
  refine aw_seq ?_
  refine aw_region ?_
  refine awl_runp 1 [1, 3] [1] (ob := (True ∧ True)) (st' := (⟨118, [(1, [], .v (.c (.ptr 1 0))), (3, [], .v (.c (.fn 76 [])))], [(1, [], .box [.p (.int .i64) tv.1, .p (.int .i64) tv.2.1, .p (.int .i64) tv.2.2.1, .p (.sl (.sl (.int .i64))) tv.2.2.2.1, .p (.sl (.sl (.sl (.int .i64)))) tv.2.2.2.2.1, .p (.int .i64) tv.2.2.2.2.2])]⟩ : St)) (by kernel_rfl) ⟨trivial, trivial⟩ ?_
  refine awl_nil ?_
  refine thenQ_n ?_
  refine aw_seq ?_
  refine aw_seq ?_
  refine aw_region ?_
  refine awl_runp 3 [1, 3, 10, 12] [1] (ob := (True ∧ True ∧ True ∧ True)) (st' := (⟨118, [(1, [], .v (.c (.ptr 1 0))), (3, [], .v (.c (.fn 76 []))), (10, [], .v (.c (.fn 76 []))), (12, [], .v (.c (.p (.int .i64) tv.1)))], [(1, [], .box [.p (.int .i64) tv.1, .p (.int .i64) tv.2.1, .p (.int .i64) tv.2.2.1, .p (.sl (.sl (.int .i64))) tv.2.2.2.1, .p (.sl (.sl (.sl (.int .i64)))) tv.2.2.2.2.1, .p (.int .i64) tv.2.2.2.2.2])]⟩ : St)) (by kernel_rfl) ⟨trivial, trivial, trivial, trivial⟩ ?_
  refine awl_callk (p := []) (l := [toV1 (.int .i64) tv.1, toV1 (.int .i64) (7 : Int)]) (cl := []) false [.d (.int .i64), .d (.int .i64)] [1, 3, 13] [1] (fun (ret13v : Bool) => gcall (α := Bool) (!(!ret13v)) (VC76 tv.2.1 (3 : Int)) false (fun (ret19v : Bool) => gcall (α := Bool) (!((!ret13v) || (!ret19v))) (VC76 tv.2.2.1 (3 : Int)) false (fun (ret26v : Bool) => (((((!ret13v) || (!ret19v)) || (!ret26v)) = true → K (1 : Int)) ∧ ((((!ret13v) || (!ret19v)) || (!ret26v)) = false → ((((!decide ((tv.2.2.2.1.length : Int) = tv.1)) || (!decide ((tv.2.2.2.2.1.length : Int) = tv.1))) = true → K (3 : Int)) ∧ (((!decide ((tv.2.2.2.1.length : Int) = tv.1)) || (!decide ((tv.2.2.2.2.1.length : Int) = tv.1))) = false → Loop (σ := Int) (fun s X => VC39_l4 tv K s X) (0 : Int)))))))) (fun ret13v => [toV1 .bool ret13v]) (fun ret13v => (⟨118, [(1, [], .v (.c (.ptr 1 0))), (3, [], .v (.c (.fn 76 []))), (13, [], .v (.c (.p .bool ret13v)))], [(1, [], .box [.p (.int .i64) tv.1, .p (.int .i64) tv.2.1, .p (.int .i64) tv.2.2.1, .p (.sl (.sl (.int .i64))) tv.2.2.2.1, .p (.sl (.sl (.sl (.int .i64)))) tv.2.2.2.2.1, .p (.int .i64) tv.2.2.2.2.2])]⟩ : St)) (by kernel_rfl) rfl (by kernel_rfl) rfl (by kernel_rfl) Try.call76 (by kernel_rfl) (fun ret13v => by kernel_rfl) (fun e => by cases e) (fun hg => link76 tv.1 (7 : Int) _ h) (fun hg => noF hg) (fun ret13v h => ?_)
  have h : gcall (α := Bool) (!(!ret13v)) (VC76 tv.2.1 (3 : Int)) false (fun (ret19v : Bool) => gcall (α := Bool) (!((!ret13v) || (!ret19v))) (VC76 tv.2.2.1 (3 : Int)) false (fun (ret26v : Bool) => (((((!ret13v) || (!ret19v)) || (!ret26v)) = true → K (1 : Int)) ∧ ((((!ret13v) || (!ret19v)) || (!ret26v)) = false → ((((!decide ((tv.2.2.2.1.length : Int) = tv.1)) || (!decide ((tv.2.2.2.2.1.length : Int) = tv.1))) = true → K (3 : Int)) ∧ (((!decide ((tv.2.2.2.1.length : Int) = tv.1)) || (!decide ((tv.2.2.2.2.1.length : Int) = tv.1))) = false → Loop (σ := Int) (fun s X => VC39_l4 tv K s X) (0 : Int))))))) := h
  refine awl_runp 5 [1, 3, 15, 16, 18] [1] (ob := (True ∧ True ∧ ((!ret13v) = false → True) ∧ ((!ret13v) = false → True) ∧ ((!ret13v) = false → True) ∧ True)) (st' := (⟨118, [(1, [], .v (.c (.ptr 1 0))), (3, [], .v (.c (.fn 76 []))), (15, [], .v (.c (.p .bool (!ret13v)))), (16, [(15, false)], .v (.c (.fn 76 []))), (18, [(15, false)], .v (.c (.p (.int .i64) tv.2.1)))], [(1, [], .box [.p (.int .i64) tv.1, .p (.int .i64) tv.2.1, .p (.int .i64) tv.2.2.1, .p (.sl (.sl (.int .i64))) tv.2.2.2.1, .p (.sl (.sl (.sl (.int .i64)))) tv.2.2.2.2.1, .p (.int .i64) tv.2.2.2.2.2])]⟩ : St)) (by kernel_rfl) ⟨trivial, trivial, (fun _ => trivial), (fun _ => trivial), (fun _ => trivial), trivial⟩ ?_
  refine awl_callk (p := [(15, false)]) (l := [toV1 (.int .i64) tv.2.1, toV1 (.int .i64) (3 : Int)]) (cl := []) false [.d (.int .i64), .d (.int .i64)] [1, 3, 15, 19] [1] (fun (ret19v : Bool) => gcall (α := Bool) (!((!ret13v) || (!ret19v))) (VC76 tv.2.2.1 (3 : Int)) false (fun (ret26v : Bool) => (((((!ret13v) || (!ret19v)) || (!ret26v)) = true → K (1 : Int)) ∧ ((((!ret13v) || (!ret19v)) || (!ret26v)) = false → ((((!decide ((tv.2.2.2.1.length : Int) = tv.1)) || (!decide ((tv.2.2.2.2.1.length : Int) = tv.1))) = true → K (3 : Int)) ∧ (((!decide ((tv.2.2.2.1.length : Int) = tv.1)) || (!decide ((tv.2.2.2.2.1.length : Int) = tv.1))) = false → Loop (σ := Int) (fun s X => VC39_l4 tv K s X) (0 : Int))))))) (fun ret19v => [toV1 .bool ret19v]) (fun ret19v => (⟨118, [(1, [], .v (.c (.ptr 1 0))), (3, [], .v (.c (.fn 76 []))), (15, [], .v (.c (.p .bool (!ret13v)))), (19, [(15, false)], .v (.c (.p .bool ret19v)))], [(1, [], .box [.p (.int .i64) tv.1, .p (.int .i64) tv.2.1, .p (.int .i64) tv.2.2.1, .p (.sl (.sl (.int .i64))) tv.2.2.2.1, .p (.sl (.sl (.sl (.int .i64)))) tv.2.2.2.2.1, .p (.int .i64) tv.2.2.2.2.2])]⟩ : St)) (by kernel_rfl) rfl (by kernel_rfl) rfl (by kernel_rfl) Try.call76 (by kernel_rfl) (fun ret19v => by kernel_rfl) (fun e => by cases e) (fun hg => link76 tv.2.1 (3 : Int) _ (by have := gcall_T h (show (!(!ret13v)) = true from hg); exact this)) (fun hg => ⟨false, by have := gcall_F h (show (!(!ret13v)) = false from hg); exact this⟩) (fun ret19v h => ?_)
  have h : gcall (α := Bool) (!((!ret13v) || (!ret19v))) (VC76 tv.2.2.1 (3 : Int)) false (fun (ret26v : Bool) => (((((!ret13v) || (!ret19v)) || (!ret26v)) = true → K (1 : Int)) ∧ ((((!ret13v) || (!ret19v)) || (!ret26v)) = false → ((((!decide ((tv.2.2.2.1.length : Int) = tv.1)) || (!decide ((tv.2.2.2.2.1.length : Int) = tv.1))) = true → K (3 : Int)) ∧ (((!decide ((tv.2.2.2.1.length : Int) = tv.1)) || (!decide ((tv.2.2.2.2.1.length : Int) = tv.1))) = false → Loop (σ := Int) (fun s X => VC39_l4 tv K s X) (0 : Int)))))) := h
  refine awl_runp 6 [1, 22, 23, 25] [1] (ob := (((!ret13v) = false → True) ∧ True ∧ True ∧ (((!ret13v) || (!ret19v)) = false → True) ∧ (((!ret13v) || (!ret19v)) = false → True) ∧ (((!ret13v) || (!ret19v)) = false → True) ∧ True)) (st' := (⟨118, [(1, [], .v (.c (.ptr 1 0))), (22, [], .v (.c (.p .bool ((!ret13v) || (!ret19v))))), (23, [(22, false)], .v (.c (.fn 76 []))), (25, [(22, false)], .v (.c (.p (.int .i64) tv.2.2.1)))], [(1, [], .box [.p (.int .i64) tv.1, .p (.int .i64) tv.2.1, .p (.int .i64) tv.2.2.1, .p (.sl (.sl (.int .i64))) tv.2.2.2.1, .p (.sl (.sl (.sl (.int .i64)))) tv.2.2.2.2.1, .p (.int .i64) tv.2.2.2.2.2])]⟩ : St)) (by kernel_rfl) ⟨(fun _ => trivial), trivial, trivial, (fun _ => trivial), (fun _ => trivial), (fun _ => trivial), trivial⟩ ?_
  refine awl_callk (p := [(22, false)]) (l := [toV1 (.int .i64) tv.2.2.1, toV1 (.int .i64) (3 : Int)]) (cl := []) false [.d (.int .i64), .d (.int .i64)] [1, 22, 26] [1] (fun (ret26v : Bool) => (((((!ret13v) || (!ret19v)) || (!ret26v)) = true → K (1 : Int)) ∧ ((((!ret13v) || (!ret19v)) || (!ret26v)) = false → ((((!decide ((tv.2.2.2.1.length : Int) = tv.1)) || (!decide ((tv.2.2.2.2.1.length : Int) = tv.1))) = true → K (3 : Int)) ∧ (((!decide ((tv.2.2.2.1.length : Int) = tv.1)) || (!decide ((tv.2.2.2.2.1.length : Int) = tv.1))) = false → Loop (σ := Int) (fun s X => VC39_l4 tv K s X) (0 : Int)))))) (fun ret26v => [toV1 .bool ret26v]) (fun ret26v => (⟨118, [(1, [], .v (.c (.ptr 1 0))), (22, [], .v (.c (.p .bool ((!ret13v) || (!ret19v))))), (26, [(22, false)], .v (.c (.p .bool ret26v)))], [(1, [], .box [.p (.int .i64) tv.1, .p (.int .i64) tv.2.1, .p (.int .i64) tv.2.2.1, .p (.sl (.sl (.int .i64))) tv.2.2.2.1, .p (.sl (.sl (.sl (.int .i64)))) tv.2.2.2.2.1, .p (.int .i64) tv.2.2.2.2.2])]⟩ : St)) (by kernel_rfl) rfl (by kernel_rfl) rfl (by kernel_rfl) Try.call76 (by kernel_rfl) (fun ret26v => by kernel_rfl) (fun e => by cases e) (fun hg => link76 tv.2.2.1 (3 : Int) _ (by have := gcall_T h (show (!((!ret13v) || (!ret19v))) = true from hg); exact this)) (fun hg => ⟨false, by have := gcall_F h (show (!((!ret13v) || (!ret19v))) = false from hg); exact this⟩) (fun ret26v h => ?_)
  have h : (((((!ret13v) || (!ret19v)) || (!ret26v)) = true → K (1 : Int)) ∧ ((((!ret13v) || (!ret19v)) || (!ret26v)) = false → ((((!decide ((tv.2.2.2.1.length : Int) = tv.1)) || (!decide ((tv.2.2.2.2.1.length : Int) = tv.1))) = true → K (3 : Int)) ∧ (((!decide ((tv.2.2.2.1.length : Int) = tv.1)) || (!decide ((tv.2.2.2.2.1.length : Int) = tv.1))) = false → Loop (σ := Int) (fun s X => VC39_l4 tv K s X) (0 : Int))))) := h
  refine awl_runp 2 [1, 28] [1] (ob := ((((!ret13v) || (!ret19v)) = false → True) ∧ True ∧ True)) (st' := (⟨118, [(1, [], .v (.c (.ptr 1 0))), (28, [], .v (.c (.p .bool (((!ret13v) || (!ret19v)) || (!ret26v)))))], [(1, [], .box [.p (.int .i64) tv.1, .p (.int .i64) tv.2.1, .p (.int .i64) tv.2.2.1, .p (.sl (.sl (.int .i64))) tv.2.2.2.1, .p (.sl (.sl (.sl (.int .i64)))) tv.2.2.2.2.1, .p (.int .i64) tv.2.2.2.2.2])]⟩ : St)) (by kernel_rfl) ⟨(fun _ => trivial), trivial, trivial⟩ ?_
  refine awl_nil ?_
  refine thenQ_n ?_
  refine aw_cond (b := (((!ret13v) || (!ret19v)) || (!ret26v))) (by kernel_rfl) (fun hb => ?_) (fun hb => ?_)
  · have h := h.1 hb
    refine aw_seq ?_
    refine aw_region ?_
    refine awl_runp 1 [2] [] (ob := (True ∧ True)) (st' := (⟨118, [(2, [], .v (.c (.p (.int .i64) (1 : Int))))], []⟩ : St)) (by kernel_rfl) ⟨trivial, trivial⟩ ?_
    refine awl_nil ?_
    refine thenQ_n ?_
    refine aw_ret ?_
    refine thenQ_r ?_
    exact retQ_r (σ := Int) (R := (fun y => [toV1 (.int .i64) y])) (ob := (True ∧ True)) (1 : Int) (by kernel_rfl) ⟨trivial, trivial⟩ h
  · have h := h.2 hb
    refine aw_skip ?_
    refine thenQ_n ?_
    refine aw_seq ?_
    refine aw_seq ?_
    refine aw_region ?_
    refine awl_runp 14 [1, 42] [1] (ob := (True ∧ True ∧ True ∧ True ∧ True ∧ True ∧ True ∧ ((!decide ((tv.2.2.2.1.length : Int) = tv.1)) = false → True) ∧ ((!decide ((tv.2.2.2.1.length : Int) = tv.1)) = false → True) ∧ ((!decide ((tv.2.2.2.1.length : Int) = tv.1)) = false → True) ∧ ((!decide ((tv.2.2.2.1.length : Int) = tv.1)) = false → True) ∧ ((!decide ((tv.2.2.2.1.length : Int) = tv.1)) = false → True) ∧ ((!decide ((tv.2.2.2.1.length : Int) = tv.1)) = false → True) ∧ True ∧ True)) (st' := (⟨118, [(1, [], .v (.c (.ptr 1 0))), (42, [], .v (.c (.p .bool ((!decide ((tv.2.2.2.1.length : Int) = tv.1)) || (!decide ((tv.2.2.2.2.1.length : Int) = tv.1))))))], [(1, [], .box [.p (.int .i64) tv.1, .p (.int .i64) tv.2.1, .p (.int .i64) tv.2.2.1, .p (.sl (.sl (.int .i64))) tv.2.2.2.1, .p (.sl (.sl (.sl (.int .i64)))) tv.2.2.2.2.1, .p (.int .i64) tv.2.2.2.2.2])]⟩ : St)) (by kernel_rfl) ⟨trivial, trivial, trivial, trivial, trivial, trivial, trivial, (fun _ => trivial), (fun _ => trivial), (fun _ => trivial), (fun _ => trivial), (fun _ => trivial), (fun _ => trivial), trivial, trivial⟩ ?_
    refine awl_nil ?_
    refine thenQ_n ?_
    refine aw_cond (b := ((!decide ((tv.2.2.2.1.length : Int) = tv.1)) || (!decide ((tv.2.2.2.2.1.length : Int) = tv.1)))) (by kernel_rfl) (fun hb => ?_) (fun hb => ?_)
    · have h := h.1 hb
      refine aw_seq ?_
      refine aw_region ?_
      refine awl_runp 1 [2] [] (ob := (True ∧ True)) (st' := (⟨118, [(2, [], .v (.c (.p (.int .i64) (3 : Int))))], []⟩ : St)) (by kernel_rfl) ⟨trivial, trivial⟩ ?_
      refine awl_nil ?_
      refine thenQ_n ?_
      refine aw_ret ?_
      refine thenQ_r ?_
      exact retQ_r (σ := Int) (R := (fun y => [toV1 (.int .i64) y])) (ob := (True ∧ True)) (3 : Int) (by kernel_rfl) ⟨trivial, trivial⟩ h
    · have h := h.2 hb
      refine aw_skip ?_
      refine thenQ_n ?_
      refine aw_seq ?_
      refine aw_seq ?_
      refine aw_region ?_
      refine awl_runp 3 [1, 44, 45] [1] (ob := (True ∧ True ∧ True ∧ True)) (st' := (⟨118, [(1, [], .v (.c (.ptr 1 0))), (44, [], .v (.c (.p (.int .i64) tv.1))), (45, [], .v (.c (.p (.int .i64) (0 : Int))))], [(1, [], .box [.p (.int .i64) tv.1, .p (.int .i64) tv.2.1, .p (.int .i64) tv.2.2.1, .p (.sl (.sl (.int .i64))) tv.2.2.2.1, .p (.sl (.sl (.sl (.int .i64)))) tv.2.2.2.2.1, .p (.int .i64) tv.2.2.2.2.2])]⟩ : St)) (by kernel_rfl) ⟨trivial, trivial, trivial, trivial⟩ ?_
      refine awl_nil ?_
      refine thenQ_n ?_
      refine withJoin (σ := Unit) (fun s => (⟨118, [(1, [], .v (.c (.ptr 1 0)))], [(1, [], .box [.p (.int .i64) tv.1, .p (.int .i64) tv.2.1, .p (.int .i64) tv.2.2.1, .p (.sl (.sl (.int .i64))) tv.2.2.2.1, .p (.sl (.sl (.sl (.int .i64)))) tv.2.2.2.2.1, .p (.int .i64) tv.2.2.2.2.2])]⟩ : St)) (fun s => VC39_k1 tv K) (fun s h => ?_) (fun rest4 => ?_)
      · have h : VC39_k1 tv K := h
        unfold VC39_k1 at h
        refine thenQ_n ?_
        refine aw_seq ?_
        refine aw_seq ?_
        refine aw_region ?_
        refine awl_runp 4 [1, 70, 71, 72] [1] (ob := (True ∧ True ∧ True ∧ True ∧ True)) (st' := (⟨118, [(1, [], .v (.c (.ptr 1 0))), (70, [], .v (.c (.p (.sl (.sl (.sl (.int .i64)))) tv.2.2.2.2.1))), (71, [], .v (.c (.p (.int .i64) (tv.2.2.2.2.1.length : Int)))), (72, [], .v (.c (.p (.int .i64) (0 : Int))))], [(1, [], .box [.p (.int .i64) tv.1, .p (.int .i64) tv.2.1, .p (.int .i64) tv.2.2.1, .p (.sl (.sl (.int .i64))) tv.2.2.2.1, .p (.sl (.sl (.sl (.int .i64)))) tv.2.2.2.2.1, .p (.int .i64) tv.2.2.2.2.2])]⟩ : St)) (by kernel_rfl) ⟨trivial, trivial, trivial, trivial, trivial⟩ ?_
        refine awl_nil ?_
        refine thenQ_n ?_
        refine withJoin (σ := Unit) (fun s => (⟨118, [(1, [], .v (.c (.ptr 1 0)))], [(1, [], .box [.p (.int .i64) tv.1, .p (.int .i64) tv.2.1, .p (.int .i64) tv.2.2.1, .p (.sl (.sl (.int .i64))) tv.2.2.2.1, .p (.sl (.sl (.sl (.int .i64)))) tv.2.2.2.2.1, .p (.int .i64) tv.2.2.2.2.2])]⟩ : St)) (fun s => VC39_k2 tv K) (fun s h => ?_) (fun rest3 => ?_)
        · have h : VC39_k2 tv K := h
          unfold VC39_k2 at h
          refine thenQ_n ?_
          refine aw_seq ?_
          refine aw_seq ?_
          refine aw_region ?_
          refine awl_runp 10 [1, 88] [1] (ob := (True ∧ True ∧ True ∧ True ∧ ((decide (tv.2.2.2.2.2 < (0 : Int))) = false → True) ∧ ((decide (tv.2.2.2.2.2 < (0 : Int))) = false → True) ∧ ((decide (tv.2.2.2.2.2 < (0 : Int))) = false → True) ∧ ((decide (tv.2.2.2.2.2 < (0 : Int))) = false → True) ∧ ((decide (tv.2.2.2.2.2 < (0 : Int))) = false → True) ∧ True ∧ True)) (st' := (⟨118, [(1, [], .v (.c (.ptr 1 0))), (88, [], .v (.c (.p .bool ((decide (tv.2.2.2.2.2 < (0 : Int))) || (decide (tv.1 ≤ tv.2.2.2.2.2))))))], [(1, [], .box [.p (.int .i64) tv.1, .p (.int .i64) tv.2.1, .p (.int .i64) tv.2.2.1, .p (.sl (.sl (.int .i64))) tv.2.2.2.1, .p (.sl (.sl (.sl (.int .i64)))) tv.2.2.2.2.1, .p (.int .i64) tv.2.2.2.2.2])]⟩ : St)) (by kernel_rfl) ⟨trivial, trivial, trivial, trivial, (fun _ => trivial), (fun _ => trivial), (fun _ => trivial), (fun _ => trivial), (fun _ => trivial), trivial, trivial⟩ ?_
          refine awl_nil ?_
          refine thenQ_n ?_
          refine aw_cond (b := ((decide (tv.2.2.2.2.2 < (0 : Int))) || (decide (tv.1 ≤ tv.2.2.2.2.2)))) (by kernel_rfl) (fun hb => ?_) (fun hb => ?_)
          · have h := h.1 hb
            refine aw_seq ?_
            refine aw_region ?_
            refine awl_runp 1 [2] [] (ob := (True ∧ True)) (st' := (⟨118, [(2, [], .v (.c (.p (.int .i64) (2 : Int))))], []⟩ : St)) (by kernel_rfl) ⟨trivial, trivial⟩ ?_
            refine awl_nil ?_
            refine thenQ_n ?_
            refine aw_ret ?_
            refine thenQ_r ?_
            exact retQ_r (σ := Int) (R := (fun y => [toV1 (.int .i64) y])) (ob := (True ∧ True)) (2 : Int) (by kernel_rfl) ⟨trivial, trivial⟩ h
          · have h := h.2 hb
            refine aw_skip ?_
            refine thenQ_n ?_
            refine aw_seq ?_
            refine aw_seq ?_
            refine aw_region ?_
            refine awl_runp 3 [1, 90, 91] [1] (ob := (True ∧ True ∧ True ∧ True)) (st' := (⟨118, [(1, [], .v (.c (.ptr 1 0))), (90, [], .v (.c (.p (.int .i64) tv.1))), (91, [], .v (.c (.p (.int .i64) (0 : Int))))], [(1, [], .box [.p (.int .i64) tv.1, .p (.int .i64) tv.2.1, .p (.int .i64) tv.2.2.1, .p (.sl (.sl (.int .i64))) tv.2.2.2.1, .p (.sl (.sl (.sl (.int .i64)))) tv.2.2.2.2.1, .p (.int .i64) tv.2.2.2.2.2])]⟩ : St)) (by kernel_rfl) ⟨trivial, trivial, trivial, trivial⟩ ?_
            refine awl_nil ?_
            refine thenQ_n ?_
            refine withJoin (σ := Unit) (fun s => (⟨118, [], []⟩ : St)) (fun s => VC39_k3 K) (fun s h => ?_) (fun rest1 => ?_)
            · have h : VC39_k3 K := h
              unfold VC39_k3 at h
              refine thenQ_n ?_
              refine aw_seq ?_
              refine aw_region ?_
              refine awl_runp 1 [2] [] (ob := (True ∧ True)) (st' := (⟨118, [(2, [], .v (.c (.p (.int .i64) (0 : Int))))], []⟩ : St)) (by kernel_rfl) ⟨trivial, trivial⟩ ?_
              refine awl_nil ?_
              refine thenQ_n ?_
              refine aw_ret ?_
              exact retQ_r (σ := Int) (R := (fun y => [toV1 (.int .i64) y])) (ob := (True ∧ True)) (0 : Int) (by kernel_rfl) ⟨trivial, trivial⟩ h
            · refine aw_block ?_
              refine aw_conv [.freezeB 1 (.pr (.int .i64) (.pr (.int .i64) (.pr (.int .i64) (.pr (.sl (.sl (.int .i64))) (.pr (.sl (.sl (.sl (.int .i64)))) (.int .i64))))))] (st' := (⟨118, [(1, [], .v (.c (.ad (.pr (.int .i64) (.pr (.int .i64) (.pr (.int .i64) (.pr (.sl (.sl (.int .i64))) (.pr (.sl (.sl (.sl (.int .i64)))) (.int .i64)))))) tv))), (90, [], .v (.c (.p (.int .i64) tv.1))), (91, [], .v (.c (.p (.int .i64) (0 : Int))))], []⟩ : St)) (by kernel_rfl) ?_
              refine aw_loop (σ := Int) (fun s => (⟨118, [(1, [], .v (.c (.ad (.pr (.int .i64) (.pr (.int .i64) (.pr (.int .i64) (.pr (.sl (.sl (.int .i64))) (.pr (.sl (.sl (.sl (.int .i64)))) (.int .i64)))))) tv))), (90, [], .v (.c (.p (.int .i64) tv.1))), (91, [], .v (.c (.p (.int .i64) s)))], []⟩ : St)) (fun s X => VC39_l1 tv K s X) (s0 := (0 : Int)) (fun v91 X1 h => ?_) h
              have h : VC39_l1 tv K v91 X1 := h
              unfold VC39_l1 at h
              refine aw_seq ?_
              refine aw_region ?_
              refine awl_runp 1 [1, 90, 91, 92] [] (ob := (True ∧ True)) (st' := (⟨118, [(1, [], .v (.c (.ad (.pr (.int .i64) (.pr (.int .i64) (.pr (.int .i64) (.pr (.sl (.sl (.int .i64))) (.pr (.sl (.sl (.sl (.int .i64)))) (.int .i64)))))) tv))), (90, [], .v (.c (.p (.int .i64) tv.1))), (91, [], .v (.c (.p (.int .i64) v91))), (92, [], .v (.c (.p .bool (decide (v91 < tv.1)))))], []⟩ : St)) (by kernel_rfl) ⟨trivial, trivial⟩ ?_
              refine awl_nil ?_
              refine thenQ_n ?_
              refine aw_seq ?_
              refine aw_cond (b := (decide (v91 < tv.1))) (by kernel_rfl) (fun hb => ?_) (fun hb => ?_)
              · have h := h.1 hb
                refine aw_skip ?_
                refine thenQ_n ?_
                refine aw_seq ?_
                refine aw_block ?_
                refine aw_seq ?_
                refine aw_region ?_
                refine awl_runp 2 [1, 7, 90, 91] [] (ob := (True ∧ True ∧ True)) (st' := (⟨118, [(1, [], .v (.c (.ad (.pr (.int .i64) (.pr (.int .i64) (.pr (.int .i64) (.pr (.sl (.sl (.int .i64))) (.pr (.sl (.sl (.sl (.int .i64)))) (.int .i64)))))) tv))), (7, [], .v (.c (.p (.int .i64) v91))), (90, [], .v (.c (.p (.int .i64) tv.1))), (91, [], .v (.c (.p (.int .i64) v91)))], []⟩ : St)) (by kernel_rfl) ⟨trivial, trivial, trivial⟩ ?_
                refine awl_nil ?_
                refine thenQ_n ?_
                refine aw_seq ?_
                refine aw_seq ?_
                refine aw_region ?_
                obtain ⟨o1, h⟩ := h
                refine awl_runp 6 [1, 7, 90, 91, 98, 99] [] (ob := (True ∧ True ∧ True ∧ inIdx v91 tv.2.2.2.1.length ∧ True ∧ True ∧ True)) (st' := (⟨118, [(1, [], .v (.c (.ad (.pr (.int .i64) (.pr (.int .i64) (.pr (.int .i64) (.pr (.sl (.sl (.int .i64))) (.pr (.sl (.sl (.sl (.int .i64)))) (.int .i64)))))) tv))), (7, [], .v (.c (.p (.int .i64) v91))), (90, [], .v (.c (.p (.int .i64) tv.1))), (91, [], .v (.c (.p (.int .i64) v91))), (98, [], .v (.c (.p (.sl (.int .i64)) (tv.2.2.2.1.getD (v91).toNat ([] : (List Int)))))), (99, [], .v (.c (.fn 80 [(⟨(.pr (.int .i64) (.pr (.int .i64) (.pr (.int .i64) (.pr (.sl (.sl (.int .i64))) (.pr (.sl (.sl (.sl (.int .i64)))) (.int .i64)))))), tv⟩ : Dat)])))], []⟩ : St)) (by kernel_rfl) ⟨trivial, trivial, trivial, o1, trivial, trivial, trivial⟩ ?_
                refine awl_callk (p := []) (l := [toV1 (.sl (.int .i64)) (tv.2.2.2.1.getD (v91).toNat ([] : (List Int))), .c (.fn 80 [(⟨(.pr (.int .i64) (.pr (.int .i64) (.pr (.int .i64) (.pr (.sl (.sl (.int .i64))) (.pr (.sl (.sl (.sl (.int .i64)))) (.int .i64)))))), tv⟩ : Dat)])]) (cl := []) false [.d (.sl (.int .i64)), .fn] [1, 7, 90, 91, 100] [] (fun (ret100v : Bool) => ((ret100v = true → K (2 : Int)) ∧ (ret100v = false → (inIdx v91 tv.2.2.2.2.1.length ∧ Loop (σ := Int) (fun s X => VC39_l2 tv K v91 X1 s X) (0 : Int))))) (fun ret100v => [toV1 .bool ret100v]) (fun ret100v => (⟨118, [(1, [], .v (.c (.ad (.pr (.int .i64) (.pr (.int .i64) (.pr (.int .i64) (.pr (.sl (.sl (.int .i64))) (.pr (.sl (.sl (.sl (.int .i64)))) (.int .i64)))))) tv))), (7, [], .v (.c (.p (.int .i64) v91))), (90, [], .v (.c (.p (.int .i64) tv.1))), (91, [], .v (.c (.p (.int .i64) v91))), (100, [], .v (.c (.p .bool ret100v)))], []⟩ : St)) (by kernel_rfl) rfl (by kernel_rfl) rfl (by kernel_rfl) Try.call79 (by kernel_rfl) (fun ret100v => by kernel_rfl) (fun e => by cases e) (fun hg => link79 (tv.2.2.2.1.getD (v91).toNat ([] : (List Int))) 80 [(⟨(.pr (.int .i64) (.pr (.int .i64) (.pr (.int .i64) (.pr (.sl (.sl (.int .i64))) (.pr (.sl (.sl (.sl (.int .i64)))) (.int .i64)))))), tv⟩ : Dat)] (fun (x : Int) (K : Bool → Prop) => VC80 x tv K) ⟨Try.call80, fun x K h => link80 x tv K h⟩ _ h) (fun hg => noF hg) (fun ret100v h => ?_)
                have h : ((ret100v = true → K (2 : Int)) ∧ (ret100v = false → (inIdx v91 tv.2.2.2.2.1.length ∧ Loop (σ := Int) (fun s X => VC39_l2 tv K v91 X1 s X) (0 : Int)))) := h
                refine awl_nil ?_
                refine thenQ_n ?_
                refine aw_cond (b := ret100v) (by kernel_rfl) (fun hb => ?_) (fun hb => ?_)
                · have h := h.1 hb
                  refine aw_seq ?_
                  refine aw_region ?_
                  refine awl_runp 1 [2] [] (ob := (True ∧ True)) (st' := (⟨118, [(2, [], .v (.c (.p (.int .i64) (2 : Int))))], []⟩ : St)) (by kernel_rfl) ⟨trivial, trivial⟩ ?_
                  refine awl_nil ?_
                  refine thenQ_n ?_
                  refine aw_ret ?_
                  refine thenQ_r ?_
                  refine blockQ_r ?_
                  refine thenQ_r ?_
                  refine thenQ_r ?_
                  refine blockQ_r ?_
                  refine thenQ_r ?_
                  exact retQ_r (σ := Int) (R := (fun y => [toV1 (.int .i64) y])) (ob := (True ∧ True)) (2 : Int) (by kernel_rfl) ⟨trivial, trivial⟩ h
                · have h := h.2 hb
                  refine aw_skip ?_
                  refine thenQ_n ?_
                  refine aw_seq ?_
                  refine aw_region ?_
                  obtain ⟨o1, h⟩ := h
                  refine awl_runp 7 [1, 90, 91, 105, 106, 107] [] (ob := (True ∧ True ∧ True ∧ inIdx v91 tv.2.2.2.2.1.length ∧ True ∧ True ∧ True ∧ True)) (st' := (⟨118, [(1, [], .v (.c (.ad (.pr (.int .i64) (.pr (.int .i64) (.pr (.int .i64) (.pr (.sl (.sl (.int .i64))) (.pr (.sl (.sl (.sl (.int .i64)))) (.int .i64)))))) tv))), (90, [], .v (.c (.p (.int .i64) tv.1))), (91, [], .v (.c (.p (.int .i64) v91))), (105, [], .v (.c (.p (.sl (.sl (.int .i64))) (tv.2.2.2.2.1.getD (v91).toNat ([] : (List (List Int))))))), (106, [], .v (.c (.p (.int .i64) ((tv.2.2.2.2.1.getD (v91).toNat ([] : (List (List Int)))).length : Int)))), (107, [], .v (.c (.p (.int .i64) (0 : Int))))], []⟩ : St)) (by kernel_rfl) ⟨trivial, trivial, trivial, o1, trivial, trivial, trivial, trivial⟩ ?_
                  refine awl_nil ?_
                  refine thenQ_n ?_
                  refine withJoin (σ := Unit) (fun s => (⟨118, [(1, [], .v (.c (.ad (.pr (.int .i64) (.pr (.int .i64) (.pr (.int .i64) (.pr (.sl (.sl (.int .i64))) (.pr (.sl (.sl (.sl (.int .i64)))) (.int .i64)))))) tv))), (90, [], .v (.c (.p (.int .i64) tv.1))), (91, [], .v (.c (.p (.int .i64) v91)))], []⟩ : St)) (fun s => VC39_k4 v91 X1) (fun s h => ?_) (fun rest2 => ?_)
                  · have h : VC39_k4 v91 X1 := h
                    unfold VC39_k4 at h
                    refine blockQ_n ?_
                    refine thenQ_n ?_
                    refine aw_region ?_
                    obtain ⟨o1, h⟩ := h
                    refine awl_runp 2 [1, 90, 91] [] (ob := (InR (v91 + (1 : Int)) ∧ True ∧ True)) (st' := (⟨118, [(1, [], .v (.c (.ad (.pr (.int .i64) (.pr (.int .i64) (.pr (.int .i64) (.pr (.sl (.sl (.int .i64))) (.pr (.sl (.sl (.sl (.int .i64)))) (.int .i64)))))) tv))), (90, [], .v (.c (.p (.int .i64) tv.1))), (91, [], .v (.c (.p (.int .i64) (v91 + (1 : Int)))))], []⟩ : St)) (by kernel_rfl) ⟨o1, trivial, trivial⟩ ?_
                    refine awl_nil ?_
                    exact thenQ_n ⟨(v91 + (1 : Int)), rfl, h⟩
                  · refine aw_block ?_
                    refine aw_loop (σ := Int) (fun s => (⟨118, [(1, [], .v (.c (.ad (.pr (.int .i64) (.pr (.int .i64) (.pr (.int .i64) (.pr (.sl (.sl (.int .i64))) (.pr (.sl (.sl (.sl (.int .i64)))) (.int .i64)))))) tv))), (90, [], .v (.c (.p (.int .i64) tv.1))), (91, [], .v (.c (.p (.int .i64) v91))), (105, [], .v (.c (.p (.sl (.sl (.int .i64))) (tv.2.2.2.2.1.getD (v91).toNat ([] : (List (List Int))))))), (106, [], .v (.c (.p (.int .i64) ((tv.2.2.2.2.1.getD (v91).toNat ([] : (List (List Int)))).length : Int)))), (107, [], .v (.c (.p (.int .i64) s)))], []⟩ : St)) (fun s X => VC39_l2 tv K v91 X1 s X) (s0 := (0 : Int)) (fun v107 X2 h => ?_) h
                    have h : VC39_l2 tv K v91 X1 v107 X2 := h
                    unfold VC39_l2 at h
                    refine aw_seq ?_
                    refine aw_region ?_
                    refine awl_runp 1 [1, 90, 91, 105, 106, 107, 108] [] (ob := (True ∧ True)) (st' := (⟨118, [(1, [], .v (.c (.ad (.pr (.int .i64) (.pr (.int .i64) (.pr (.int .i64) (.pr (.sl (.sl (.int .i64))) (.pr (.sl (.sl (.sl (.int .i64)))) (.int .i64)))))) tv))), (90, [], .v (.c (.p (.int .i64) tv.1))), (91, [], .v (.c (.p (.int .i64) v91))), (105, [], .v (.c (.p (.sl (.sl (.int .i64))) (tv.2.2.2.2.1.getD (v91).toNat ([] : (List (List Int))))))), (106, [], .v (.c (.p (.int .i64) ((tv.2.2.2.2.1.getD (v91).toNat ([] : (List (List Int)))).length : Int)))), (107, [], .v (.c (.p (.int .i64) v107))), (108, [], .v (.c (.p .bool (decide (v107 < ((tv.2.2.2.2.1.getD (v91).toNat ([] : (List (List Int)))).length : Int))))))], []⟩ : St)) (by kernel_rfl) ⟨trivial, trivial⟩ ?_
                    refine awl_nil ?_
                    refine thenQ_n ?_
                    refine aw_seq ?_
                    refine aw_cond (b := (decide (v107 < ((tv.2.2.2.2.1.getD (v91).toNat ([] : (List (List Int)))).length : Int)))) (by kernel_rfl) (fun hb => ?_) (fun hb => ?_)
                    · have h := h.1 hb
                      refine aw_skip ?_
                      refine thenQ_n ?_
                      refine aw_seq ?_
                      refine aw_block ?_
                      refine aw_seq ?_
                      refine aw_region ?_
                      obtain ⟨o1, h⟩ := h
                      refine awl_runp 3 [1, 9, 90, 91, 105, 106, 107] [] (ob := (inIdx v107 (tv.2.2.2.2.1.getD (v91).toNat ([] : (List (List Int)))).length ∧ True ∧ True ∧ True)) (st' := (⟨118, [(1, [], .v (.c (.ad (.pr (.int .i64) (.pr (.int .i64) (.pr (.int .i64) (.pr (.sl (.sl (.int .i64))) (.pr (.sl (.sl (.sl (.int .i64)))) (.int .i64)))))) tv))), (9, [], .v (.c (.p (.sl (.int .i64)) ((tv.2.2.2.2.1.getD (v91).toNat ([] : (List (List Int)))).getD (v107).toNat ([] : (List Int)))))), (90, [], .v (.c (.p (.int .i64) tv.1))), (91, [], .v (.c (.p (.int .i64) v91))), (105, [], .v (.c (.p (.sl (.sl (.int .i64))) (tv.2.2.2.2.1.getD (v91).toNat ([] : (List (List Int))))))), (106, [], .v (.c (.p (.int .i64) ((tv.2.2.2.2.1.getD (v91).toNat ([] : (List (List Int)))).length : Int)))), (107, [], .v (.c (.p (.int .i64) v107)))], []⟩ : St)) (by kernel_rfl) ⟨o1, trivial, trivial, trivial⟩ ?_
                      refine awl_nil ?_
                      refine thenQ_n ?_
                      refine aw_seq ?_
                      refine aw_region ?_
                      refine awl_runp 3 [1, 90, 91, 105, 106, 107, 112, 113] [] (ob := (True ∧ True ∧ True ∧ True)) (st' := (⟨118, [(1, [], .v (.c (.ad (.pr (.int .i64) (.pr (.int .i64) (.pr (.int .i64) (.pr (.sl (.sl (.int .i64))) (.pr (.sl (.sl (.sl (.int .i64)))) (.int .i64)))))) tv))), (90, [], .v (.c (.p (.int .i64) tv.1))), (91, [], .v (.c (.p (.int .i64) v91))), (105, [], .v (.c (.p (.sl (.sl (.int .i64))) (tv.2.2.2.2.1.getD (v91).toNat ([] : (List (List Int))))))), (106, [], .v (.c (.p (.int .i64) ((tv.2.2.2.2.1.getD (v91).toNat ([] : (List (List Int)))).length : Int)))), (107, [], .v (.c (.p (.int .i64) v107))), (112, [], .v (.c (.p (.int .i64) tv.2.2.1))), (113, [], .v (.c (.p (.sl (.int .i64)) ((tv.2.2.2.2.1.getD (v91).toNat ([] : (List (List Int)))).getD (v107).toNat ([] : (List Int))))))], []⟩ : St)) (by kernel_rfl) ⟨trivial, trivial, trivial, trivial⟩ ?_
                      refine awl_callk (p := []) (l := [toV1 (.int .i64) tv.2.2.1, toV1 (.sl (.int .i64)) ((tv.2.2.2.2.1.getD (v91).toNat ([] : (List (List Int)))).getD (v107).toNat ([] : (List Int)))]) (cl := []) false [.d (.int .i64), .d (.sl (.int .i64))] [1, 90, 91, 105, 106, 107, 114] [] (fun (ret114v : Int) => (((!decide (ret114v = (0 : Int))) = true → K (2 : Int)) ∧ ((!decide (ret114v = (0 : Int))) = false → (InR (v107 + (1 : Int)) ∧ X2 (v107 + (1 : Int)))))) (fun ret114v => [toV1 (.int .i64) ret114v]) (fun ret114v => (⟨118, [(1, [], .v (.c (.ad (.pr (.int .i64) (.pr (.int .i64) (.pr (.int .i64) (.pr (.sl (.sl (.int .i64))) (.pr (.sl (.sl (.sl (.int .i64)))) (.int .i64)))))) tv))), (90, [], .v (.c (.p (.int .i64) tv.1))), (91, [], .v (.c (.p (.int .i64) v91))), (105, [], .v (.c (.p (.sl (.sl (.int .i64))) (tv.2.2.2.2.1.getD (v91).toNat ([] : (List (List Int))))))), (106, [], .v (.c (.p (.int .i64) ((tv.2.2.2.2.1.getD (v91).toNat ([] : (List (List Int)))).length : Int)))), (107, [], .v (.c (.p (.int .i64) v107))), (114, [], .v (.c (.p (.int .i64) ret114v)))], []⟩ : St)) (by kernel_rfl) rfl (by kernel_rfl) rfl (by kernel_rfl) Try.call40 (by kernel_rfl) (fun ret114v => by kernel_rfl) (fun e => by cases e) (fun hg => link40 tv.2.2.1 ((tv.2.2.2.2.1.getD (v91).toNat ([] : (List (List Int)))).getD (v107).toNat ([] : (List Int))) _ h) (fun hg => noF hg) (fun ret114v h => ?_)
                      have h : (((!decide (ret114v = (0 : Int))) = true → K (2 : Int)) ∧ ((!decide (ret114v = (0 : Int))) = false → (InR (v107 + (1 : Int)) ∧ X2 (v107 + (1 : Int))))) := h
                      refine awl_runp 1 [1, 90, 91, 105, 106, 107, 115] [] (ob := (True ∧ True)) (st' := (⟨118, [(1, [], .v (.c (.ad (.pr (.int .i64) (.pr (.int .i64) (.pr (.int .i64) (.pr (.sl (.sl (.int .i64))) (.pr (.sl (.sl (.sl (.int .i64)))) (.int .i64)))))) tv))), (90, [], .v (.c (.p (.int .i64) tv.1))), (91, [], .v (.c (.p (.int .i64) v91))), (105, [], .v (.c (.p (.sl (.sl (.int .i64))) (tv.2.2.2.2.1.getD (v91).toNat ([] : (List (List Int))))))), (106, [], .v (.c (.p (.int .i64) ((tv.2.2.2.2.1.getD (v91).toNat ([] : (List (List Int)))).length : Int)))), (107, [], .v (.c (.p (.int .i64) v107))), (115, [], .v (.c (.p .bool (!decide (ret114v = (0 : Int))))))], []⟩ : St)) (by kernel_rfl) ⟨trivial, trivial⟩ ?_
                      refine awl_nil ?_
                      refine thenQ_n ?_
                      refine aw_cond (b := (!decide (ret114v = (0 : Int)))) (by kernel_rfl) (fun hb => ?_) (fun hb => ?_)
                      · have h := h.1 hb
                        refine aw_seq ?_
                        refine aw_region ?_
                        refine awl_runp 1 [2] [] (ob := (True ∧ True)) (st' := (⟨118, [(2, [], .v (.c (.p (.int .i64) (2 : Int))))], []⟩ : St)) (by kernel_rfl) ⟨trivial, trivial⟩ ?_
                        refine awl_nil ?_
                        refine thenQ_n ?_
                        refine aw_ret ?_
                        refine blockQ_r ?_
                        refine thenQ_r ?_
                        refine thenQ_r ?_
                        refine blockQ_r ?_
                        refine blockQ_r ?_
                        refine thenQ_r ?_
                        refine thenQ_r ?_
                        refine blockQ_r ?_
                        refine thenQ_r ?_
                        exact retQ_r (σ := Int) (R := (fun y => [toV1 (.int .i64) y])) (ob := (True ∧ True)) (2 : Int) (by kernel_rfl) ⟨trivial, trivial⟩ h
                      · have h := h.2 hb
                        refine aw_skip ?_
                        refine blockQ_n ?_
                        refine thenQ_n ?_
                        refine aw_region ?_
                        obtain ⟨o1, h⟩ := h
                        refine awl_runp 2 [1, 90, 91, 105, 106, 107] [] (ob := (InR (v107 + (1 : Int)) ∧ True ∧ True)) (st' := (⟨118, [(1, [], .v (.c (.ad (.pr (.int .i64) (.pr (.int .i64) (.pr (.int .i64) (.pr (.sl (.sl (.int .i64))) (.pr (.sl (.sl (.sl (.int .i64)))) (.int .i64)))))) tv))), (90, [], .v (.c (.p (.int .i64) tv.1))), (91, [], .v (.c (.p (.int .i64) v91))), (105, [], .v (.c (.p (.sl (.sl (.int .i64))) (tv.2.2.2.2.1.getD (v91).toNat ([] : (List (List Int))))))), (106, [], .v (.c (.p (.int .i64) ((tv.2.2.2.2.1.getD (v91).toNat ([] : (List (List Int)))).length : Int)))), (107, [], .v (.c (.p (.int .i64) (v107 + (1 : Int)))))], []⟩ : St)) (by kernel_rfl) ⟨o1, trivial, trivial⟩ ?_
                        refine awl_nil ?_
                        exact thenQ_n ⟨(v107 + (1 : Int)), rfl, h⟩
                    · have h := h.2 hb
                      refine aw_conv [.prune [1, 90, 91] []] (st' := (⟨118, [(1, [], .v (.c (.ad (.pr (.int .i64) (.pr (.int .i64) (.pr (.int .i64) (.pr (.sl (.sl (.int .i64))) (.pr (.sl (.sl (.sl (.int .i64)))) (.int .i64)))))) tv))), (90, [], .v (.c (.p (.int .i64) tv.1))), (91, [], .v (.c (.p (.int .i64) v91)))], []⟩ : St)) (by kernel_rfl) ?_
                      refine aw_exit ?_
                      refine thenQ_x ?_
                      refine thenQ_x ?_
                      refine blockQ_hit ?_
                      exact rest2 () h
              · have h := h.2 hb
                refine aw_conv [.prune [] []] (st' := (⟨118, [], []⟩ : St)) (by kernel_rfl) ?_
                refine aw_exit ?_
                refine thenQ_x ?_
                refine thenQ_x ?_
                refine blockQ_hit ?_
                exact rest1 () h
        · refine aw_block ?_
          refine aw_loop (σ := Int) (fun s => (⟨118, [(1, [], .v (.c (.ptr 1 0))), (70, [], .v (.c (.p (.sl (.sl (.sl (.int .i64)))) tv.2.2.2.2.1))), (71, [], .v (.c (.p (.int .i64) (tv.2.2.2.2.1.length : Int)))), (72, [], .v (.c (.p (.int .i64) s)))], [(1, [], .box [.p (.int .i64) tv.1, .p (.int .i64) tv.2.1, .p (.int .i64) tv.2.2.1, .p (.sl (.sl (.int .i64))) tv.2.2.2.1, .p (.sl (.sl (.sl (.int .i64)))) tv.2.2.2.2.1, .p (.int .i64) tv.2.2.2.2.2])]⟩ : St)) (fun s X => VC39_l3 tv K s X) (s0 := (0 : Int)) (fun v72 X3 h => ?_) h
          have h : VC39_l3 tv K v72 X3 := h
          unfold VC39_l3 at h
          refine aw_seq ?_
          refine aw_region ?_
          refine awl_runp 1 [1, 70, 71, 72, 73] [1] (ob := (True ∧ True)) (st' := (⟨118, [(1, [], .v (.c (.ptr 1 0))), (70, [], .v (.c (.p (.sl (.sl (.sl (.int .i64)))) tv.2.2.2.2.1))), (71, [], .v (.c (.p (.int .i64) (tv.2.2.2.2.1.length : Int)))), (72, [], .v (.c (.p (.int .i64) v72))), (73, [], .v (.c (.p .bool (decide (v72 < (tv.2.2.2.2.1.length : Int))))))], [(1, [], .box [.p (.int .i64) tv.1, .p (.int .i64) tv.2.1, .p (.int .i64) tv.2.2.1, .p (.sl (.sl (.int .i64))) tv.2.2.2.1, .p (.sl (.sl (.sl (.int .i64)))) tv.2.2.2.2.1, .p (.int .i64) tv.2.2.2.2.2])]⟩ : St)) (by kernel_rfl) ⟨trivial, trivial⟩ ?_
          refine awl_nil ?_
          refine thenQ_n ?_
          refine aw_seq ?_
          refine aw_cond (b := (decide (v72 < (tv.2.2.2.2.1.length : Int)))) (by kernel_rfl) (fun hb => ?_) (fun hb => ?_)
          · have h := h.1 hb
            refine aw_skip ?_
            refine thenQ_n ?_
            refine aw_seq ?_
            refine aw_block ?_
            refine aw_seq ?_
            refine aw_region ?_
            obtain ⟨o1, h⟩ := h
            refine awl_runp 3 [1, 6, 70, 71, 72] [1] (ob := (inIdx v72 tv.2.2.2.2.1.length ∧ True ∧ True ∧ True)) (st' := (⟨118, [(1, [], .v (.c (.ptr 1 0))), (6, [], .v (.c (.p (.sl (.sl (.int .i64))) (tv.2.2.2.2.1.getD (v72).toNat ([] : (List (List Int))))))), (70, [], .v (.c (.p (.sl (.sl (.sl (.int .i64)))) tv.2.2.2.2.1))), (71, [], .v (.c (.p (.int .i64) (tv.2.2.2.2.1.length : Int)))), (72, [], .v (.c (.p (.int .i64) v72)))], [(1, [], .box [.p (.int .i64) tv.1, .p (.int .i64) tv.2.1, .p (.int .i64) tv.2.2.1, .p (.sl (.sl (.int .i64))) tv.2.2.2.1, .p (.sl (.sl (.sl (.int .i64)))) tv.2.2.2.2.1, .p (.int .i64) tv.2.2.2.2.2])]⟩ : St)) (by kernel_rfl) ⟨o1, trivial, trivial, trivial⟩ ?_
            refine awl_nil ?_
            refine thenQ_n ?_
            refine aw_seq ?_
            refine aw_region ?_
            refine awl_runp 1 [1, 70, 71, 72, 76] [1] (ob := (True ∧ True)) (st' := (⟨118, [(1, [], .v (.c (.ptr 1 0))), (70, [], .v (.c (.p (.sl (.sl (.sl (.int .i64)))) tv.2.2.2.2.1))), (71, [], .v (.c (.p (.int .i64) (tv.2.2.2.2.1.length : Int)))), (72, [], .v (.c (.p (.int .i64) v72))), (76, [], .v (.c (.p (.sl (.sl (.int .i64))) (tv.2.2.2.2.1.getD (v72).toNat ([] : (List (List Int)))))))], [(1, [], .box [.p (.int .i64) tv.1, .p (.int .i64) tv.2.1, .p (.int .i64) tv.2.2.1, .p (.sl (.sl (.int .i64))) tv.2.2.2.1, .p (.sl (.sl (.sl (.int .i64)))) tv.2.2.2.2.1, .p (.int .i64) tv.2.2.2.2.2])]⟩ : St)) (by kernel_rfl) ⟨trivial, trivial⟩ ?_
            refine awl_callk (p := []) (l := [toV1 (.sl (.sl (.int .i64))) (tv.2.2.2.2.1.getD (v72).toNat ([] : (List (List Int)))), .c (.fn 78 [])]) (cl := []) false [.d (.sl (.sl (.int .i64))), .fn] [1, 70, 71, 72, 77] [1] (fun (ret77v : Bool) => ((ret77v = true → K (1 : Int)) ∧ (ret77v = false → (InR (v72 + (1 : Int)) ∧ X3 (v72 + (1 : Int)))))) (fun ret77v => [toV1 .bool ret77v]) (fun ret77v => (⟨118, [(1, [], .v (.c (.ptr 1 0))), (70, [], .v (.c (.p (.sl (.sl (.sl (.int .i64)))) tv.2.2.2.2.1))), (71, [], .v (.c (.p (.int .i64) (tv.2.2.2.2.1.length : Int)))), (72, [], .v (.c (.p (.int .i64) v72))), (77, [], .v (.c (.p .bool ret77v)))], [(1, [], .box [.p (.int .i64) tv.1, .p (.int .i64) tv.2.1, .p (.int .i64) tv.2.2.1, .p (.sl (.sl (.int .i64))) tv.2.2.2.1, .p (.sl (.sl (.sl (.int .i64)))) tv.2.2.2.2.1, .p (.int .i64) tv.2.2.2.2.2])]⟩ : St)) (by kernel_rfl) rfl (by kernel_rfl) rfl (by kernel_rfl) Try.call77 (by kernel_rfl) (fun ret77v => by kernel_rfl) (fun e => by cases e) (fun hg => link77 (tv.2.2.2.2.1.getD (v72).toNat ([] : (List (List Int)))) 78 [] (fun (x : (List Int)) (K : Bool → Prop) => VC78 x K) ⟨Try.call78, fun x K h => link78 x K h⟩ _ h) (fun hg => noF hg) (fun ret77v h => ?_)
            have h : ((ret77v = true → K (1 : Int)) ∧ (ret77v = false → (InR (v72 + (1 : Int)) ∧ X3 (v72 + (1 : Int))))) := h
            refine awl_nil ?_
            refine thenQ_n ?_
            refine aw_cond (b := ret77v) (by kernel_rfl) (fun hb => ?_) (fun hb => ?_)
            · have h := h.1 hb
              refine aw_seq ?_
              refine aw_region ?_
              refine awl_runp 1 [2] [] (ob := (True ∧ True)) (st' := (⟨118, [(2, [], .v (.c (.p (.int .i64) (1 : Int))))], []⟩ : St)) (by kernel_rfl) ⟨trivial, trivial⟩ ?_
              refine awl_nil ?_
              refine thenQ_n ?_
              refine aw_ret ?_
              refine blockQ_r ?_
              refine thenQ_r ?_
              refine thenQ_r ?_
              refine blockQ_r ?_
              refine thenQ_r ?_
              exact retQ_r (σ := Int) (R := (fun y => [toV1 (.int .i64) y])) (ob := (True ∧ True)) (1 : Int) (by kernel_rfl) ⟨trivial, trivial⟩ h
            · have h := h.2 hb
              refine aw_skip ?_
              refine blockQ_n ?_
              refine thenQ_n ?_
              refine aw_region ?_
              obtain ⟨o1, h⟩ := h
              refine awl_runp 2 [1, 70, 71, 72] [1] (ob := (InR (v72 + (1 : Int)) ∧ True ∧ True)) (st' := (⟨118, [(1, [], .v (.c (.ptr 1 0))), (70, [], .v (.c (.p (.sl (.sl (.sl (.int .i64)))) tv.2.2.2.2.1))), (71, [], .v (.c (.p (.int .i64) (tv.2.2.2.2.1.length : Int)))), (72, [], .v (.c (.p (.int .i64) (v72 + (1 : Int)))))], [(1, [], .box [.p (.int .i64) tv.1, .p (.int .i64) tv.2.1, .p (.int .i64) tv.2.2.1, .p (.sl (.sl (.int .i64))) tv.2.2.2.1, .p (.sl (.sl (.sl (.int .i64)))) tv.2.2.2.2.1, .p (.int .i64) tv.2.2.2.2.2])]⟩ : St)) (by kernel_rfl) ⟨o1, trivial, trivial⟩ ?_
              refine awl_nil ?_
              exact thenQ_n ⟨(v72 + (1 : Int)), rfl, h⟩
          · have h := h.2 hb
            refine aw_conv [.prune [1] [1]] (st' := (⟨118, [(1, [], .v (.c (.ptr 1 0)))], [(1, [], .box [.p (.int .i64) tv.1, .p (.int .i64) tv.2.1, .p (.int .i64) tv.2.2.1, .p (.sl (.sl (.int .i64))) tv.2.2.2.1, .p (.sl (.sl (.sl (.int .i64)))) tv.2.2.2.2.1, .p (.int .i64) tv.2.2.2.2.2])]⟩ : St)) (by kernel_rfl) ?_
            refine aw_exit ?_
            refine thenQ_x ?_
            refine thenQ_x ?_
            refine blockQ_hit ?_
            exact rest3 () h
      · refine aw_block ?_
        refine aw_loop (σ := Int) (fun s => (⟨118, [(1, [], .v (.c (.ptr 1 0))), (44, [], .v (.c (.p (.int .i64) tv.1))), (45, [], .v (.c (.p (.int .i64) s)))], [(1, [], .box [.p (.int .i64) tv.1, .p (.int .i64) tv.2.1, .p (.int .i64) tv.2.2.1, .p (.sl (.sl (.int .i64))) tv.2.2.2.1, .p (.sl (.sl (.sl (.int .i64)))) tv.2.2.2.2.1, .p (.int .i64) tv.2.2.2.2.2])]⟩ : St)) (fun s X => VC39_l4 tv K s X) (s0 := (0 : Int)) (fun v45 X4 h => ?_) h
        have h : VC39_l4 tv K v45 X4 := h
        unfold VC39_l4 at h
        refine aw_seq ?_
        refine aw_region ?_
        refine awl_runp 1 [1, 44, 45, 46] [1] (ob := (True ∧ True)) (st' := (⟨118, [(1, [], .v (.c (.ptr 1 0))), (44, [], .v (.c (.p (.int .i64) tv.1))), (45, [], .v (.c (.p (.int .i64) v45))), (46, [], .v (.c (.p .bool (decide (v45 < tv.1)))))], [(1, [], .box [.p (.int .i64) tv.1, .p (.int .i64) tv.2.1, .p (.int .i64) tv.2.2.1, .p (.sl (.sl (.int .i64))) tv.2.2.2.1, .p (.sl (.sl (.sl (.int .i64)))) tv.2.2.2.2.1, .p (.int .i64) tv.2.2.2.2.2])]⟩ : St)) (by kernel_rfl) ⟨trivial, trivial⟩ ?_
        refine awl_nil ?_
        refine thenQ_n ?_
        refine aw_seq ?_
        refine aw_cond (b := (decide (v45 < tv.1))) (by kernel_rfl) (fun hb => ?_) (fun hb => ?_)
        · have h := h.1 hb
          refine aw_skip ?_
          refine thenQ_n ?_
          refine aw_seq ?_
          refine aw_block ?_
          refine aw_seq ?_
          refine aw_region ?_
          refine awl_runp 2 [1, 4, 44, 45] [1] (ob := (True ∧ True ∧ True)) (st' := (⟨118, [(1, [], .v (.c (.ptr 1 0))), (4, [], .v (.c (.p (.int .i64) v45))), (44, [], .v (.c (.p (.int .i64) tv.1))), (45, [], .v (.c (.p (.int .i64) v45)))], [(1, [], .box [.p (.int .i64) tv.1, .p (.int .i64) tv.2.1, .p (.int .i64) tv.2.2.1, .p (.sl (.sl (.int .i64))) tv.2.2.2.1, .p (.sl (.sl (.sl (.int .i64)))) tv.2.2.2.2.1, .p (.int .i64) tv.2.2.2.2.2])]⟩ : St)) (by kernel_rfl) ⟨trivial, trivial, trivial⟩ ?_
          refine awl_nil ?_
          refine thenQ_n ?_
          refine aw_seq ?_
          refine awd_begin [] (by kernel_rfl) ?_
          obtain ⟨o1, o2, h⟩ := h
          refine awd_runp (by kernel_rfl) [0, 1, 2, 3, 4, 5, 6, 7, 8, 9, 10, 11, 12, 13, 14, 15, 16, 17, 18, 19] [1, 44, 45, 67] [1] (ob := (True ∧ True ∧ True ∧ inIdx v45 tv.2.2.2.1.length ∧ True ∧ True ∧ True ∧ True ∧ True ∧ True ∧ ((!decide (((tv.2.2.2.1.getD (v45).toNat ([] : (List Int))).length : Int) = tv.2.1)) = false → True) ∧ ((!decide (((tv.2.2.2.1.getD (v45).toNat ([] : (List Int))).length : Int) = tv.2.1)) = false → True) ∧ ((!decide (((tv.2.2.2.1.getD (v45).toNat ([] : (List Int))).length : Int) = tv.2.1)) = false → True) ∧ ((!decide (((tv.2.2.2.1.getD (v45).toNat ([] : (List Int))).length : Int) = tv.2.1)) = false → inIdx v45 tv.2.2.2.2.1.length) ∧ ((!decide (((tv.2.2.2.1.getD (v45).toNat ([] : (List Int))).length : Int) = tv.2.1)) = false → True) ∧ ((!decide (((tv.2.2.2.1.getD (v45).toNat ([] : (List Int))).length : Int) = tv.2.1)) = false → True) ∧ ((!decide (((tv.2.2.2.1.getD (v45).toNat ([] : (List Int))).length : Int) = tv.2.1)) = false → True) ∧ ((!decide (((tv.2.2.2.1.getD (v45).toNat ([] : (List Int))).length : Int) = tv.2.1)) = false → True) ∧ ((!decide (((tv.2.2.2.1.getD (v45).toNat ([] : (List Int))).length : Int) = tv.2.1)) = false → True) ∧ True ∧ True)) (done' := [19, 18, 17, 16, 15, 14, 13, 12, 11, 10, 9, 8, 7, 6, 5, 4, 3, 2, 1, 0]) (st' := (⟨118, [(1, [], .v (.c (.ptr 1 0))), (44, [], .v (.c (.p (.int .i64) tv.1))), (45, [], .v (.c (.p (.int .i64) v45))), (67, [], .v (.c (.p .bool ((!decide (((tv.2.2.2.1.getD (v45).toNat ([] : (List Int))).length : Int) = tv.2.1)) || (!decide (((tv.2.2.2.2.1.getD (v45).toNat ([] : (List (List Int)))).length : Int) = tv.2.1))))))], [(1, [], .box [.p (.int .i64) tv.1, .p (.int .i64) tv.2.1, .p (.int .i64) tv.2.2.1, .p (.sl (.sl (.int .i64))) tv.2.2.2.1, .p (.sl (.sl (.sl (.int .i64)))) tv.2.2.2.2.1, .p (.int .i64) tv.2.2.2.2.2])]⟩ : St)) (by kernel_rfl) ⟨trivial, trivial, trivial, o1, trivial, trivial, trivial, trivial, trivial, trivial, (fun _ => trivial), (fun _ => trivial), (fun _ => trivial), o2, (fun _ => trivial), (fun _ => trivial), (fun _ => trivial), (fun _ => trivial), (fun _ => trivial), trivial, trivial⟩ ?_
          refine awd_done (by kernel_rfl) ?_
          refine thenQ_n ?_
          refine aw_cond (b := ((!decide (((tv.2.2.2.1.getD (v45).toNat ([] : (List Int))).length : Int) = tv.2.1)) || (!decide (((tv.2.2.2.2.1.getD (v45).toNat ([] : (List (List Int)))).length : Int) = tv.2.1)))) (by kernel_rfl) (fun hb => ?_) (fun hb => ?_)
          · have h := h.1 hb
            refine aw_seq ?_
            refine aw_region ?_
            refine awl_runp 1 [2] [] (ob := (True ∧ True)) (st' := (⟨118, [(2, [], .v (.c (.p (.int .i64) (3 : Int))))], []⟩ : St)) (by kernel_rfl) ⟨trivial, trivial⟩ ?_
            refine awl_nil ?_
            refine thenQ_n ?_
            refine aw_ret ?_
            refine blockQ_r ?_
            refine thenQ_r ?_
            refine thenQ_r ?_
            refine blockQ_r ?_
            refine thenQ_r ?_
            exact retQ_r (σ := Int) (R := (fun y => [toV1 (.int .i64) y])) (ob := (True ∧ True)) (3 : Int) (by kernel_rfl) ⟨trivial, trivial⟩ h
          · have h := h.2 hb
            refine aw_skip ?_
            refine blockQ_n ?_
            refine thenQ_n ?_
            refine aw_region ?_
            obtain ⟨o1, h⟩ := h
            refine awl_runp 2 [1, 44, 45] [1] (ob := (InR (v45 + (1 : Int)) ∧ True ∧ True)) (st' := (⟨118, [(1, [], .v (.c (.ptr 1 0))), (44, [], .v (.c (.p (.int .i64) tv.1))), (45, [], .v (.c (.p (.int .i64) (v45 + (1 : Int)))))], [(1, [], .box [.p (.int .i64) tv.1, .p (.int .i64) tv.2.1, .p (.int .i64) tv.2.2.1, .p (.sl (.sl (.int .i64))) tv.2.2.2.1, .p (.sl (.sl (.sl (.int .i64)))) tv.2.2.2.2.1, .p (.int .i64) tv.2.2.2.2.2])]⟩ : St)) (by kernel_rfl) ⟨o1, trivial, trivial⟩ ?_
            refine awl_nil ?_
            exact thenQ_n ⟨(v45 + (1 : Int)), rfl, h⟩
        · have h := h.2 hb
          refine aw_conv [.prune [1] [1]] (st' := (⟨118, [(1, [], .v (.c (.ptr 1 0)))], [(1, [], .box [.p (.int .i64) tv.1, .p (.int .i64) tv.2.1, .p (.int .i64) tv.2.2.1, .p (.sl (.sl (.int .i64))) tv.2.2.2.1, .p (.sl (.sl (.sl (.int .i64)))) tv.2.2.2.2.1, .p (.int .i64) tv.2.2.2.2.2])]⟩ : St)) (by kernel_rfl) ?_
          refine aw_exit ?_
          refine thenQ_x ?_
          refine thenQ_x ?_
          refine blockQ_hit ?_
          exact rest4 () h

-- coppicer/turner.write
def VC41_k1 (K : Int × (List Int) → Prop) (atv2 : Int) (out : (List Int)) : Prop :=
  K (atv2, out)

def VC41_l1 (tv : (Int × (Int × (Int × ((List (List Int)) × ((List (List (List Int))) × Int)))))) (w : (List Int)) (K : Int × (List Int) → Prop) (atv2 : Int) (v13 : Int) (out : (List Int)) (X1 : Int × Int × (List Int) → Prop) : Prop :=
  (((decide (v13 < (w.length : Int))) = true → (inIdx v13 w.length ∧ (inIdx atv2 tv.2.2.2.2.1.length ∧ inIdx (w.getD (v13).toNat (0 : Int)) (tv.2.2.2.2.1.getD (atv2).toNat ([] : (List (List Int)))).length ∧ roomN (out.length + ((tv.2.2.2.2.1.getD (atv2).toNat ([] : (List (List Int)))).getD ((w.getD (v13).toNat (0 : Int))).toNat ([] : (List Int))).length) ∧ (inIdx atv2 tv.2.2.2.1.length ∧ inIdx (w.getD (v13).toNat (0 : Int)) (tv.2.2.2.1.getD (atv2).toNat ([] : (List Int))).length ∧ (InR (v13 + (1 : Int)) ∧ X1 (((tv.2.2.2.1.getD (atv2).toNat ([] : (List Int))).getD ((w.getD (v13).toNat (0 : Int))).toNat (0 : Int)), (v13 + (1 : Int)), (out ++ ((tv.2.2.2.2.1.getD (atv2).toNat ([] : (List (List Int)))).getD ((w.getD (v13).toNat (0 : Int))).toNat ([] : (List Int)))))))))) ∧ ((decide (v13 < (w.length : Int))) = false → VC41_k1 K atv2 out))

def VC41 (tv : (Int × (Int × (Int × ((List (List Int)) × ((List (List (List Int))) × Int)))))) (atv : Int) (w : (List Int)) (K : Int × (List Int) → Prop) : Prop :=
  Loop (σ := Int × Int × (List Int)) (fun s X => VC41_l1 tv w K s.1 s.2.1 s.2.2 X) (atv, (0 : Int), ([] : List Int))

set_option maxHeartbeats 4000000 in
theorem link41 (tv : (Int × (Int × (Int × ((List (List Int)) × ((List (List (List Int))) × Int)))))) (atv : Int) (w : (List Int)) (K : Int × (List Int) → Prop) (h : VC41 tv atv w K) : ACalls Try.prog 41 [toV1 (.pr (.int .i64) (.pr (.int .i64) (.pr (.int .i64) (.pr (.sl (.sl (.int .i64))) (.pr (.sl (.sl (.sl (.int .i64)))) (.int .i64)))))) tv, toV1 (.int .i64) atv, toV1 (.sl (.int .i64)) w] (fun res => ∃ y, res = (fun y => [toV1 (.int .i64) y.1, toV1 (.sl (.int .i64)) y.2]) y ∧ K y) := by
  refine acalls_of_aw [(.int .i64), (.sl (.int .i64))] [.t 6, .t 7] Try.func41 rfl rfl rfl ?_
  unfold VC41 at h
  refine aw_seq ?_
  refine aw_region ?_
  refine awl_runp 3 [1, 2, 3] [3] (ob := (True ∧ True ∧ True ∧ True)) (st' := (⟨38, [(1, [], .v (.c (.p (.int .i64) atv))), (2, [], .v (.c (.p (.sl (.int .i64)) w))), (3, [], .v (.c (.ptr 3 0)))], [(3, [], .box [.p (.int .i64) tv.1, .p (.int .i64) tv.2.1, .p (.int .i64) tv.2.2.1, .p (.sl (.sl (.int .i64))) tv.2.2.2.1, .p (.sl (.sl (.sl (.int .i64)))) tv.2.2.2.2.1, .p (.int .i64) tv.2.2.2.2.2])]⟩ : St)) (by kernel_rfl) ⟨trivial, trivial, trivial, trivial⟩ ?_
  refine awl_nil ?_
  refine thenQ_n ?_
  refine aw_seq ?_
  refine aw_region ?_
  refine awl_runp 1 [1, 2, 3, 8] [3] (ob := (True ∧ True)) (st' := (⟨38, [(1, [], .v (.c (.p (.int .i64) atv))), (2, [], .v (.c (.p (.sl (.int .i64)) w))), (3, [], .v (.c (.ptr 3 0))), (8, [], .v (.c (.nils)))], [(3, [], .box [.p (.int .i64) tv.1, .p (.int .i64) tv.2.1, .p (.int .i64) tv.2.2.1, .p (.sl (.sl (.int .i64))) tv.2.2.2.1, .p (.sl (.sl (.sl (.int .i64)))) tv.2.2.2.2.1, .p (.int .i64) tv.2.2.2.2.2])]⟩ : St)) (by kernel_rfl) ⟨trivial, trivial⟩ ?_
  refine awl_nil ?_
  refine thenQ_n ?_
  refine aw_seq ?_
  refine aw_seq ?_
  refine aw_region ?_
  refine awl_runp 3 [1, 3, 8, 11, 12, 13] [3] (ob := (True ∧ True ∧ True ∧ True)) (st' := (⟨38, [(1, [], .v (.c (.p (.int .i64) atv))), (3, [], .v (.c (.ptr 3 0))), (8, [], .v (.c (.nils))), (11, [], .v (.c (.p (.sl (.int .i64)) w))), (12, [], .v (.c (.p (.int .i64) (w.length : Int)))), (13, [], .v (.c (.p (.int .i64) (0 : Int))))], [(3, [], .box [.p (.int .i64) tv.1, .p (.int .i64) tv.2.1, .p (.int .i64) tv.2.2.1, .p (.sl (.sl (.int .i64))) tv.2.2.2.1, .p (.sl (.sl (.sl (.int .i64)))) tv.2.2.2.2.1, .p (.int .i64) tv.2.2.2.2.2])]⟩ : St)) (by kernel_rfl) ⟨trivial, trivial, trivial, trivial⟩ ?_
  refine awl_nil ?_
  refine thenQ_n ?_
  refine withJoin (σ := Int × (List Int)) (fun s => (⟨38, [(1, [], .v (.c (.p (.int .i64) s.1))), (8, [], .v (.c (.own 5008)))], [(5008, [], .arr 3 (.int .i64) s.2)]⟩ : St)) (fun s => VC41_k1 K s.1 s.2) (fun s h => ?_) (fun rest1 => ?_)
  · obtain ⟨atv2, out⟩ := s
    have h : VC41_k1 K atv2 out := h
    unfold VC41_k1 at h
    refine thenQ_n ?_
    refine aw_seq ?_
    refine aw_region ?_
    refine awl_runp 4 [6, 7] [5008] (ob := (True ∧ True ∧ True ∧ True ∧ True)) (st' := (⟨38, [(6, [], .v (.c (.p (.int .i64) atv2))), (7, [], .v (.c (.own 5008)))], [(5008, [], .arr 3 (.int .i64) out)]⟩ : St)) (by kernel_rfl) ⟨trivial, trivial, trivial, trivial, trivial⟩ ?_
    refine awl_nil ?_
    refine thenQ_n ?_
    refine aw_conv [.freeze 5008] (st' := (⟨38, [(6, [], .v (.c (.p (.int .i64) atv2))), (7, [], .v (.c (.p (.sl (.int .i64)) out)))], []⟩ : St)) (by kernel_rfl) ?_
    refine aw_ret ?_
    exact retQ_r (σ := Int × (List Int)) (R := (fun y => [toV1 (.int .i64) y.1, toV1 (.sl (.int .i64)) y.2])) (ob := (True ∧ True ∧ True)) (atv2, out) (by kernel_rfl) ⟨trivial, trivial, trivial⟩ h
  · refine aw_block ?_
    refine aw_conv [.nilOwn 8 5008 3 (.int .i64), .prune [1, 3, 8, 11, 12, 13] [3, 5008]] (st' := (⟨38, [(1, [], .v (.c (.p (.int .i64) atv))), (3, [], .v (.c (.ptr 3 0))), (8, [], .v (.c (.own 5008))), (11, [], .v (.c (.p (.sl (.int .i64)) w))), (12, [], .v (.c (.p (.int .i64) (w.length : Int)))), (13, [], .v (.c (.p (.int .i64) (0 : Int))))], [(3, [], .box [.p (.int .i64) tv.1, .p (.int .i64) tv.2.1, .p (.int .i64) tv.2.2.1, .p (.sl (.sl (.int .i64))) tv.2.2.2.1, .p (.sl (.sl (.sl (.int .i64)))) tv.2.2.2.2.1, .p (.int .i64) tv.2.2.2.2.2]), (5008, [], .arr 3 (.int .i64) ([] : List Int))]⟩ : St)) (by kernel_rfl) ?_
    refine aw_loop (σ := Int × Int × (List Int)) (fun s => (⟨38, [(1, [], .v (.c (.p (.int .i64) s.1))), (3, [], .v (.c (.ptr 3 0))), (8, [], .v (.c (.own 5008))), (11, [], .v (.c (.p (.sl (.int .i64)) w))), (12, [], .v (.c (.p (.int .i64) (w.length : Int)))), (13, [], .v (.c (.p (.int .i64) s.2.1)))], [(3, [], .box [.p (.int .i64) tv.1, .p (.int .i64) tv.2.1, .p (.int .i64) tv.2.2.1, .p (.sl (.sl (.int .i64))) tv.2.2.2.1, .p (.sl (.sl (.sl (.int .i64)))) tv.2.2.2.2.1, .p (.int .i64) tv.2.2.2.2.2]), (5008, [], .arr 3 (.int .i64) s.2.2)]⟩ : St)) (fun s X => VC41_l1 tv w K s.1 s.2.1 s.2.2 X) (s0 := (atv, (0 : Int), ([] : List Int))) (fun s X1 h => ?_) h
    obtain ⟨atv2, v13, out⟩ := s
    have h : VC41_l1 tv w K atv2 v13 out X1 := h
    unfold VC41_l1 at h
    refine aw_seq ?_
    refine aw_region ?_
    refine awl_runp 1 [1, 3, 8, 11, 12, 13, 14] [3, 5008] (ob := (True ∧ True)) (st' := (⟨38, [(1, [], .v (.c (.p (.int .i64) atv2))), (3, [], .v (.c (.ptr 3 0))), (8, [], .v (.c (.own 5008))), (11, [], .v (.c (.p (.sl (.int .i64)) w))), (12, [], .v (.c (.p (.int .i64) (w.length : Int)))), (13, [], .v (.c (.p (.int .i64) v13))), (14, [], .v (.c (.p .bool (decide (v13 < (w.length : Int))))))], [(3, [], .box [.p (.int .i64) tv.1, .p (.int .i64) tv.2.1, .p (.int .i64) tv.2.2.1, .p (.sl (.sl (.int .i64))) tv.2.2.2.1, .p (.sl (.sl (.sl (.int .i64)))) tv.2.2.2.2.1, .p (.int .i64) tv.2.2.2.2.2]), (5008, [], .arr 3 (.int .i64) out)]⟩ : St)) (by kernel_rfl) ⟨trivial, trivial⟩ ?_
    refine awl_nil ?_
    refine thenQ_n ?_
    refine aw_seq ?_
    refine aw_cond (b := (decide (v13 < (w.length : Int)))) (by kernel_rfl) (fun hb => ?_) (fun hb => ?_)
    · have h := h.1 hb
      refine aw_skip ?_
      refine thenQ_n ?_
      refine aw_seq ?_
      refine aw_block ?_
      refine aw_seq ?_
      refine aw_region ?_
      obtain ⟨o1, h⟩ := h
      refine awl_runp 3 [1, 3, 8, 10, 11, 12, 13] [3, 5008] (ob := (inIdx v13 w.length ∧ True ∧ True ∧ True)) (st' := (⟨38, [(1, [], .v (.c (.p (.int .i64) atv2))), (3, [], .v (.c (.ptr 3 0))), (8, [], .v (.c (.own 5008))), (10, [], .v (.c (.p (.int .i64) (w.getD (v13).toNat (0 : Int))))), (11, [], .v (.c (.p (.sl (.int .i64)) w))), (12, [], .v (.c (.p (.int .i64) (w.length : Int)))), (13, [], .v (.c (.p (.int .i64) v13)))], [(3, [], .box [.p (.int .i64) tv.1, .p (.int .i64) tv.2.1, .p (.int .i64) tv.2.2.1, .p (.sl (.sl (.int .i64))) tv.2.2.2.1, .p (.sl (.sl (.sl (.int .i64)))) tv.2.2.2.2.1, .p (.int .i64) tv.2.2.2.2.2]), (5008, [], .arr 3 (.int .i64) out)]⟩ : St)) (by kernel_rfl) ⟨o1, trivial, trivial, trivial⟩ ?_
      refine awl_nil ?_
      refine thenQ_n ?_
      refine aw_seq ?_
      refine aw_region ?_
      obtain ⟨o1, o2, o3, h⟩ := h
      refine awl_runp 11 [1, 3, 8, 10, 11, 12, 13] [3, 26] (ob := (True ∧ True ∧ True ∧ True ∧ inIdx atv2 tv.2.2.2.2.1.length ∧ True ∧ True ∧ inIdx (w.getD (v13).toNat (0 : Int)) (tv.2.2.2.2.1.getD (atv2).toNat ([] : (List (List Int)))).length ∧ True ∧ roomN (out.length + ((tv.2.2.2.2.1.getD (atv2).toNat ([] : (List (List Int)))).getD ((w.getD (v13).toNat (0 : Int))).toNat ([] : (List Int))).length) ∧ True ∧ True)) (st' := (⟨38, [(1, [], .v (.c (.p (.int .i64) atv2))), (3, [], .v (.c (.ptr 3 0))), (8, [], .v (.c (.own 26))), (10, [], .v (.c (.p (.int .i64) (w.getD (v13).toNat (0 : Int))))), (11, [], .v (.c (.p (.sl (.int .i64)) w))), (12, [], .v (.c (.p (.int .i64) (w.length : Int)))), (13, [], .v (.c (.p (.int .i64) v13)))], [(3, [], .box [.p (.int .i64) tv.1, .p (.int .i64) tv.2.1, .p (.int .i64) tv.2.2.1, .p (.sl (.sl (.int .i64))) tv.2.2.2.1, .p (.sl (.sl (.sl (.int .i64)))) tv.2.2.2.2.1, .p (.int .i64) tv.2.2.2.2.2]), (26, [], .arr 3 (.int .i64) (out ++ ((tv.2.2.2.2.1.getD (atv2).toNat ([] : (List (List Int)))).getD ((w.getD (v13).toNat (0 : Int))).toNat ([] : (List Int)))))]⟩ : St)) (by kernel_rfl) ⟨trivial, trivial, trivial, trivial, o1, trivial, trivial, o2, trivial, o3, trivial, trivial⟩ ?_
      refine awl_nil ?_
      refine thenQ_n ?_
      refine aw_region ?_
      obtain ⟨o1, o2, h⟩ := h
      refine awl_runp 9 [1, 3, 8, 11, 12, 13] [3, 26] (ob := (True ∧ True ∧ True ∧ inIdx atv2 tv.2.2.2.1.length ∧ True ∧ True ∧ inIdx (w.getD (v13).toNat (0 : Int)) (tv.2.2.2.1.getD (atv2).toNat ([] : (List Int))).length ∧ True ∧ True ∧ True)) (st' := (⟨38, [(1, [], .v (.c (.p (.int .i64) ((tv.2.2.2.1.getD (atv2).toNat ([] : (List Int))).getD ((w.getD (v13).toNat (0 : Int))).toNat (0 : Int))))), (3, [], .v (.c (.ptr 3 0))), (8, [], .v (.c (.own 26))), (11, [], .v (.c (.p (.sl (.int .i64)) w))), (12, [], .v (.c (.p (.int .i64) (w.length : Int)))), (13, [], .v (.c (.p (.int .i64) v13)))], [(3, [], .box [.p (.int .i64) tv.1, .p (.int .i64) tv.2.1, .p (.int .i64) tv.2.2.1, .p (.sl (.sl (.int .i64))) tv.2.2.2.1, .p (.sl (.sl (.sl (.int .i64)))) tv.2.2.2.2.1, .p (.int .i64) tv.2.2.2.2.2]), (26, [], .arr 3 (.int .i64) (out ++ ((tv.2.2.2.2.1.getD (atv2).toNat ([] : (List (List Int)))).getD ((w.getD (v13).toNat (0 : Int))).toNat ([] : (List Int)))))]⟩ : St)) (by kernel_rfl) ⟨trivial, trivial, trivial, o1, trivial, trivial, o2, trivial, trivial, trivial⟩ ?_
      refine awl_nil ?_
      refine blockQ_n ?_
      refine thenQ_n ?_
      refine aw_region ?_
      obtain ⟨o1, h⟩ := h
      refine awl_runp 2 [1, 3, 8, 11, 12, 13] [3, 26] (ob := (InR (v13 + (1 : Int)) ∧ True ∧ True)) (st' := (⟨38, [(1, [], .v (.c (.p (.int .i64) ((tv.2.2.2.1.getD (atv2).toNat ([] : (List Int))).getD ((w.getD (v13).toNat (0 : Int))).toNat (0 : Int))))), (3, [], .v (.c (.ptr 3 0))), (8, [], .v (.c (.own 26))), (11, [], .v (.c (.p (.sl (.int .i64)) w))), (12, [], .v (.c (.p (.int .i64) (w.length : Int)))), (13, [], .v (.c (.p (.int .i64) (v13 + (1 : Int)))))], [(3, [], .box [.p (.int .i64) tv.1, .p (.int .i64) tv.2.1, .p (.int .i64) tv.2.2.1, .p (.sl (.sl (.int .i64))) tv.2.2.2.1, .p (.sl (.sl (.sl (.int .i64)))) tv.2.2.2.2.1, .p (.int .i64) tv.2.2.2.2.2]), (26, [], .arr 3 (.int .i64) (out ++ ((tv.2.2.2.2.1.getD (atv2).toNat ([] : (List (List Int)))).getD ((w.getD (v13).toNat (0 : Int))).toNat ([] : (List Int)))))]⟩ : St)) (by kernel_rfl) ⟨o1, trivial, trivial⟩ ?_
      refine awl_conv [.ren 26 20026, .ren 20026 5008] (st' := (⟨38, [(1, [], .v (.c (.p (.int .i64) ((tv.2.2.2.1.getD (atv2).toNat ([] : (List Int))).getD ((w.getD (v13).toNat (0 : Int))).toNat (0 : Int))))), (3, [], .v (.c (.ptr 3 0))), (8, [], .v (.c (.own 5008))), (11, [], .v (.c (.p (.sl (.int .i64)) w))), (12, [], .v (.c (.p (.int .i64) (w.length : Int)))), (13, [], .v (.c (.p (.int .i64) (v13 + (1 : Int)))))], [(3, [], .box [.p (.int .i64) tv.1, .p (.int .i64) tv.2.1, .p (.int .i64) tv.2.2.1, .p (.sl (.sl (.int .i64))) tv.2.2.2.1, .p (.sl (.sl (.sl (.int .i64)))) tv.2.2.2.2.1, .p (.int .i64) tv.2.2.2.2.2]), (5008, [], .arr 3 (.int .i64) (out ++ ((tv.2.2.2.2.1.getD (atv2).toNat ([] : (List (List Int)))).getD ((w.getD (v13).toNat (0 : Int))).toNat ([] : (List Int)))))]⟩ : St)) (by kernel_rfl) ?_
      refine awl_nil ?_
      exact thenQ_n ⟨(((tv.2.2.2.1.getD (atv2).toNat ([] : (List Int))).getD ((w.getD (v13).toNat (0 : Int))).toNat (0 : Int)), (v13 + (1 : Int)), (out ++ ((tv.2.2.2.2.1.getD (atv2).toNat ([] : (List (List Int)))).getD ((w.getD (v13).toNat (0 : Int))).toNat ([] : (List Int))))), rfl, h⟩
    · have h := h.2 hb
      refine aw_conv [.prune [1, 8] [5008]] (st' := (⟨38, [(1, [], .v (.c (.p (.int .i64) atv2))), (8, [], .v (.c (.own 5008)))], [(5008, [], .arr 3 (.int .i64) out)]⟩ : St)) (by kernel_rfl) ?_
      refine aw_exit ?_
      refine thenQ_x ?_
      refine thenQ_x ?_
      refine blockQ_hit ?_
      exact rest1 (atv2, out) h

-- coppicer/turner.Run
def VC14 (tv : (Int × (Int × (Int × ((List (List Int)) × ((List (List (List Int))) × Int)))))) (w : (List Int)) (K : (List Int) × Int → Prop) : Prop :=
  VC39 tv (fun (ret11v : Int) => (((!decide (ret11v = (0 : Int))) = true → K (([] : (List Int)), ret11v)) ∧ ((!decide (ret11v = (0 : Int))) = false → VC40 tv.2.1 w (fun (ret18v : Int) => (((!decide (ret18v = (0 : Int))) = true → K (([] : (List Int)), ret18v)) ∧ ((!decide (ret18v = (0 : Int))) = false → VC41 tv tv.2.2.2.2.2 w (fun (ret27v : Int × (List Int)) => K (ret27v.2, (0 : Int)))))))))

set_option maxHeartbeats 4000000 in
theorem link14 (tv : (Int × (Int × (Int × ((List (List Int)) × ((List (List (List Int))) × Int)))))) (w : (List Int)) (K : (List Int) × Int → Prop) (h : VC14 tv w K) : ACalls Try.prog 14 [toV1 (.pr (.int .i64) (.pr (.int .i64) (.pr (.int .i64) (.pr (.sl (.sl (.int .i64))) (.pr (.sl (.sl (.sl (.int .i64)))) (.int .i64)))))) tv, toV1 (.sl (.int .i64)) w] (fun res => ∃ y, res = (fun y => [toV1 (.sl (.int .i64)) y.1, toV1 (.int .i64) y.2]) y ∧ K y) := by
  refine acalls_of_aw [(.sl (.int .i64)), (.int .i64)] [.t 4, .t 5] Try.func14 rfl rfl rfl ?_
  unfold VC14 at h
  refine aw_seq ?_
  refine aw_region ?_
  refine awl_runp 3 [1, 2] [2] (ob := (True ∧ True ∧ True ∧ True)) (st' := (⟨31, [(1, [], .v (.c (.p (.sl (.int .i64)) w))), (2, [], .v (.c (.ptr 2 0)))], [(2, [], .box [.p (.int .i64) tv.1, .p (.int .i64) tv.2.1, .p (.int .i64) tv.2.2.1, .p (.sl (.sl (.int .i64))) tv.2.2.2.1, .p (.sl (.sl (.sl (.int .i64)))) tv.2.2.2.2.1, .p (.int .i64) tv.2.2.2.2.2])]⟩ : St)) (by kernel_rfl) ⟨trivial, trivial, trivial, trivial⟩ ?_
  refine awl_nil ?_
  refine thenQ_n ?_
  refine aw_seq ?_
  refine aw_seq ?_
  refine aw_region ?_
  refine awl_runp 1 [1, 2, 10] [2] (ob := (True ∧ True)) (st' := (⟨31, [(1, [], .v (.c (.p (.sl (.int .i64)) w))), (2, [], .v (.c (.ptr 2 0))), (10, [], .v (.agg [.p (.int .i64) tv.1, .p (.int .i64) tv.2.1, .p (.int .i64) tv.2.2.1, .p (.sl (.sl (.int .i64))) tv.2.2.2.1, .p (.sl (.sl (.sl (.int .i64)))) tv.2.2.2.2.1, .p (.int .i64) tv.2.2.2.2.2]))], [(2, [], .box [.p (.int .i64) tv.1, .p (.int .i64) tv.2.1, .p (.int .i64) tv.2.2.1, .p (.sl (.sl (.int .i64))) tv.2.2.2.1, .p (.sl (.sl (.sl (.int .i64)))) tv.2.2.2.2.1, .p (.int .i64) tv.2.2.2.2.2])]⟩ : St)) (by kernel_rfl) ⟨trivial, trivial⟩ ?_
  refine awl_callk (p := []) (l := [toV1 (.pr (.int .i64) (.pr (.int .i64) (.pr (.int .i64) (.pr (.sl (.sl (.int .i64))) (.pr (.sl (.sl (.sl (.int .i64)))) (.int .i64)))))) tv]) (cl := []) false [.d (.pr (.int .i64) (.pr (.int .i64) (.pr (.int .i64) (.pr (.sl (.sl (.int .i64))) (.pr (.sl (.sl (.sl (.int .i64)))) (.int .i64))))))] [1, 2, 11] [2] (fun (ret11v : Int) => (((!decide (ret11v = (0 : Int))) = true → K (([] : (List Int)), ret11v)) ∧ ((!decide (ret11v = (0 : Int))) = false → VC40 tv.2.1 w (fun (ret18v : Int) => (((!decide (ret18v = (0 : Int))) = true → K (([] : (List Int)), ret18v)) ∧ ((!decide (ret18v = (0 : Int))) = false → VC41 tv tv.2.2.2.2.2 w (fun (ret27v : Int × (List Int)) => K (ret27v.2, (0 : Int))))))))) (fun ret11v => [toV1 (.int .i64) ret11v]) (fun ret11v => (⟨31, [(1, [], .v (.c (.p (.sl (.int .i64)) w))), (2, [], .v (.c (.ptr 2 0))), (11, [], .v (.c (.p (.int .i64) ret11v)))], [(2, [], .box [.p (.int .i64) tv.1, .p (.int .i64) tv.2.1, .p (.int .i64) tv.2.2.1, .p (.sl (.sl (.int .i64))) tv.2.2.2.1, .p (.sl (.sl (.sl (.int .i64)))) tv.2.2.2.2.1, .p (.int .i64) tv.2.2.2.2.2])]⟩ : St)) (by kernel_rfl) rfl (by kernel_rfl) rfl (by kernel_rfl) Try.call39 (by kernel_rfl) (fun ret11v => by kernel_rfl) (fun e => by cases e) (fun hg => link39 tv _ h) (fun hg => noF hg) (fun ret11v h => ?_)
  have h : (((!decide (ret11v = (0 : Int))) = true → K (([] : (List Int)), ret11v)) ∧ ((!decide (ret11v = (0 : Int))) = false → VC40 tv.2.1 w (fun (ret18v : Int) => (((!decide (ret18v = (0 : Int))) = true → K (([] : (List Int)), ret18v)) ∧ ((!decide (ret18v = (0 : Int))) = false → VC41 tv tv.2.2.2.2.2 w (fun (ret27v : Int × (List Int)) => K (ret27v.2, (0 : Int)))))))) := h
  refine awl_runp 1 [1, 2, 6] [2] (ob := (True ∧ True)) (st' := (⟨31, [(1, [], .v (.c (.p (.sl (.int .i64)) w))), (2, [], .v (.c (.ptr 2 0))), (6, [], .v (.c (.p (.int .i64) ret11v)))], [(2, [], .box [.p (.int .i64) tv.1, .p (.int .i64) tv.2.1, .p (.int .i64) tv.2.2.1, .p (.sl (.sl (.int .i64))) tv.2.2.2.1, .p (.sl (.sl (.sl (.int .i64)))) tv.2.2.2.2.1, .p (.int .i64) tv.2.2.2.2.2])]⟩ : St)) (by kernel_rfl) ⟨trivial, trivial⟩ ?_
  refine awl_nil ?_
  refine thenQ_n ?_
  refine aw_seq ?_
  refine aw_region ?_
  refine awl_runp 2 [1, 2, 6, 13] [2] (ob := (True ∧ True ∧ True)) (st' := (⟨31, [(1, [], .v (.c (.p (.sl (.int .i64)) w))), (2, [], .v (.c (.ptr 2 0))), (6, [], .v (.c (.p (.int .i64) ret11v))), (13, [], .v (.c (.p .bool (!decide (ret11v = (0 : Int))))))], [(2, [], .box [.p (.int .i64) tv.1, .p (.int .i64) tv.2.1, .p (.int .i64) tv.2.2.1, .p (.sl (.sl (.int .i64))) tv.2.2.2.1, .p (.sl (.sl (.sl (.int .i64)))) tv.2.2.2.2.1, .p (.int .i64) tv.2.2.2.2.2])]⟩ : St)) (by kernel_rfl) ⟨trivial, trivial, trivial⟩ ?_
  refine awl_nil ?_
  refine thenQ_n ?_
  refine aw_cond (b := (!decide (ret11v = (0 : Int)))) (by kernel_rfl) (fun hb => ?_) (fun hb => ?_)
  · have h := h.1 hb
    refine aw_seq ?_
    refine aw_region ?_
    refine awl_runp 3 [4, 5] [] (ob := (True ∧ True ∧ True ∧ True)) (st' := (⟨31, [(4, [], .v (.c (.nils))), (5, [], .v (.c (.p (.int .i64) ret11v)))], []⟩ : St)) (by kernel_rfl) ⟨trivial, trivial, trivial, trivial⟩ ?_
    refine awl_nil ?_
    refine thenQ_n ?_
    refine aw_ret ?_
    refine thenQ_r ?_
    exact retQ_r (σ := (List Int) × Int) (R := (fun y => [toV1 (.sl (.int .i64)) y.1, toV1 (.int .i64) y.2])) (ob := (True ∧ True ∧ True)) (([] : (List Int)), ret11v) (by kernel_rfl) ⟨trivial, trivial, trivial⟩ h
  · have h := h.2 hb
    refine aw_skip ?_
    refine thenQ_n ?_
    refine aw_seq ?_
    refine aw_seq ?_
    refine aw_region ?_
    refine awl_runp 3 [1, 2, 16, 17] [2] (ob := (True ∧ True ∧ True ∧ True)) (st' := (⟨31, [(1, [], .v (.c (.p (.sl (.int .i64)) w))), (2, [], .v (.c (.ptr 2 0))), (16, [], .v (.c (.p (.int .i64) tv.2.1))), (17, [], .v (.c (.p (.sl (.int .i64)) w)))], [(2, [], .box [.p (.int .i64) tv.1, .p (.int .i64) tv.2.1, .p (.int .i64) tv.2.2.1, .p (.sl (.sl (.int .i64))) tv.2.2.2.1, .p (.sl (.sl (.sl (.int .i64)))) tv.2.2.2.2.1, .p (.int .i64) tv.2.2.2.2.2])]⟩ : St)) (by kernel_rfl) ⟨trivial, trivial, trivial, trivial⟩ ?_
    refine awl_callk (p := []) (l := [toV1 (.int .i64) tv.2.1, toV1 (.sl (.int .i64)) w]) (cl := []) false [.d (.int .i64), .d (.sl (.int .i64))] [1, 2, 18] [2] (fun (ret18v : Int) => (((!decide (ret18v = (0 : Int))) = true → K (([] : (List Int)), ret18v)) ∧ ((!decide (ret18v = (0 : Int))) = false → VC41 tv tv.2.2.2.2.2 w (fun (ret27v : Int × (List Int)) => K (ret27v.2, (0 : Int)))))) (fun ret18v => [toV1 (.int .i64) ret18v]) (fun ret18v => (⟨31, [(1, [], .v (.c (.p (.sl (.int .i64)) w))), (2, [], .v (.c (.ptr 2 0))), (18, [], .v (.c (.p (.int .i64) ret18v)))], [(2, [], .box [.p (.int .i64) tv.1, .p (.int .i64) tv.2.1, .p (.int .i64) tv.2.2.1, .p (.sl (.sl (.int .i64))) tv.2.2.2.1, .p (.sl (.sl (.sl (.int .i64)))) tv.2.2.2.2.1, .p (.int .i64) tv.2.2.2.2.2])]⟩ : St)) (by kernel_rfl) rfl (by kernel_rfl) rfl (by kernel_rfl) Try.call40 (by kernel_rfl) (fun ret18v => by kernel_rfl) (fun e => by cases e) (fun hg => link40 tv.2.1 w _ h) (fun hg => noF hg) (fun ret18v h => ?_)
    have h : (((!decide (ret18v = (0 : Int))) = true → K (([] : (List Int)), ret18v)) ∧ ((!decide (ret18v = (0 : Int))) = false → VC41 tv tv.2.2.2.2.2 w (fun (ret27v : Int × (List Int)) => K (ret27v.2, (0 : Int))))) := h
    refine awl_runp 1 [1, 2, 7] [2] (ob := (True ∧ True)) (st' := (⟨31, [(1, [], .v (.c (.p (.sl (.int .i64)) w))), (2, [], .v (.c (.ptr 2 0))), (7, [], .v (.c (.p (.int .i64) ret18v)))], [(2, [], .box [.p (.int .i64) tv.1, .p (.int .i64) tv.2.1, .p (.int .i64) tv.2.2.1, .p (.sl (.sl (.int .i64))) tv.2.2.2.1, .p (.sl (.sl (.sl (.int .i64)))) tv.2.2.2.2.1, .p (.int .i64) tv.2.2.2.2.2])]⟩ : St)) (by kernel_rfl) ⟨trivial, trivial⟩ ?_
    refine awl_nil ?_
    refine thenQ_n ?_
    refine aw_seq ?_
    refine aw_region ?_
    refine awl_runp 2 [1, 2, 7, 20] [2] (ob := (True ∧ True ∧ True)) (st' := (⟨31, [(1, [], .v (.c (.p (.sl (.int .i64)) w))), (2, [], .v (.c (.ptr 2 0))), (7, [], .v (.c (.p (.int .i64) ret18v))), (20, [], .v (.c (.p .bool (!decide (ret18v = (0 : Int))))))], [(2, [], .box [.p (.int .i64) tv.1, .p (.int .i64) tv.2.1, .p (.int .i64) tv.2.2.1, .p (.sl (.sl (.int .i64))) tv.2.2.2.1, .p (.sl (.sl (.sl (.int .i64)))) tv.2.2.2.2.1, .p (.int .i64) tv.2.2.2.2.2])]⟩ : St)) (by kernel_rfl) ⟨trivial, trivial, trivial⟩ ?_
    refine awl_nil ?_
    refine thenQ_n ?_
    refine aw_cond (b := (!decide (ret18v = (0 : Int)))) (by kernel_rfl) (fun hb => ?_) (fun hb => ?_)
    · have h := h.1 hb
      refine aw_seq ?_
      refine aw_region ?_
      refine awl_runp 3 [4, 5] [] (ob := (True ∧ True ∧ True ∧ True)) (st' := (⟨31, [(4, [], .v (.c (.nils))), (5, [], .v (.c (.p (.int .i64) ret18v)))], []⟩ : St)) (by kernel_rfl) ⟨trivial, trivial, trivial, trivial⟩ ?_
      refine awl_nil ?_
      refine thenQ_n ?_
      refine aw_ret ?_
      refine thenQ_r ?_
      exact retQ_r (σ := (List Int) × Int) (R := (fun y => [toV1 (.sl (.int .i64)) y.1, toV1 (.int .i64) y.2])) (ob := (True ∧ True ∧ True)) (([] : (List Int)), ret18v) (by kernel_rfl) ⟨trivial, trivial, trivial⟩ h
    · have h := h.2 hb
      refine aw_skip ?_
      refine thenQ_n ?_
      refine aw_seq ?_
      refine aw_region ?_
      refine awl_runp 4 [23, 25, 26] [] (ob := (True ∧ True ∧ True ∧ True ∧ True)) (st' := (⟨31, [(23, [], .v (.agg [.p (.int .i64) tv.1, .p (.int .i64) tv.2.1, .p (.int .i64) tv.2.2.1, .p (.sl (.sl (.int .i64))) tv.2.2.2.1, .p (.sl (.sl (.sl (.int .i64)))) tv.2.2.2.2.1, .p (.int .i64) tv.2.2.2.2.2])), (25, [], .v (.c (.p (.int .i64) tv.2.2.2.2.2))), (26, [], .v (.c (.p (.sl (.int .i64)) w)))], []⟩ : St)) (by kernel_rfl) ⟨trivial, trivial, trivial, trivial, trivial⟩ ?_
      refine awl_callk (p := []) (l := [toV1 (.pr (.int .i64) (.pr (.int .i64) (.pr (.int .i64) (.pr (.sl (.sl (.int .i64))) (.pr (.sl (.sl (.sl (.int .i64)))) (.int .i64)))))) tv, toV1 (.int .i64) tv.2.2.2.2.2, toV1 (.sl (.int .i64)) w]) (cl := []) false [.d (.pr (.int .i64) (.pr (.int .i64) (.pr (.int .i64) (.pr (.sl (.sl (.int .i64))) (.pr (.sl (.sl (.sl (.int .i64)))) (.int .i64)))))), .d (.int .i64), .d (.sl (.int .i64))] [27] [] (fun (ret27v : Int × (List Int)) => K (ret27v.2, (0 : Int))) (fun ret27v => [toV1 (.int .i64) ret27v.1, toV1 (.sl (.int .i64)) ret27v.2]) (fun ret27v => (⟨31, [(27, [], .tup [.c (.p (.int .i64) ret27v.1), .c (.p (.sl (.int .i64)) ret27v.2)])], []⟩ : St)) (by kernel_rfl) rfl (by kernel_rfl) rfl (by kernel_rfl) Try.call41 (by kernel_rfl) (fun ret27v => by kernel_rfl) (fun e => by cases e) (fun hg => link41 tv tv.2.2.2.2.2 w _ h) (fun hg => noF hg) (fun ret27v h => ?_)
      have h : K (ret27v.2, (0 : Int)) := h
      refine awl_runp 5 [9] [] (ob := (True ∧ True ∧ True ∧ True ∧ True ∧ True)) (st' := (⟨31, [(9, [], .v (.c (.p (.sl (.int .i64)) ret27v.2)))], []⟩ : St)) (by kernel_rfl) ⟨trivial, trivial, trivial, trivial, trivial, trivial⟩ ?_
      refine awl_nil ?_
      refine thenQ_n ?_
      refine aw_seq ?_
      refine aw_region ?_
      refine awl_runp 3 [4, 5] [] (ob := (True ∧ True ∧ True ∧ True)) (st' := (⟨31, [(4, [], .v (.c (.p (.sl (.int .i64)) ret27v.2))), (5, [], .v (.c (.p (.int .i64) (0 : Int))))], []⟩ : St)) (by kernel_rfl) ⟨trivial, trivial, trivial, trivial⟩ ?_
      refine awl_nil ?_
      refine thenQ_n ?_
      refine aw_ret ?_
      exact retQ_r (σ := (List Int) × Int) (R := (fun y => [toV1 (.sl (.int .i64)) y.1, toV1 (.int .i64) y.2])) (ob := (True ∧ True ∧ True)) (ret27v.2, (0 : Int)) (by kernel_rfl) ⟨trivial, trivial, trivial⟩ h

-- coppicer/coppicerref.TurnerCheck
def VC42_k3 (K : Int → Prop) (bad : Bool) : Prop :=
  ((bad = true → K (2 : Int)) ∧ (bad = false → K (0 : Int)))

def VC42_k4 (i : Int) (X1 : Bool × Int → Prop) (bad2 : Bool) : Prop :=
  (InR (i + (1 : Int)) ∧ X1 (bad2, (i + (1 : Int))))

def VC42_k5 (sv : Int) (X2 : Bool × Int → Prop) (bad3 : Bool) : Prop :=
  (InR (sv + (1 : Int)) ∧ X2 (bad3, (sv + (1 : Int))))

def VC42_l3 (tv : (Int × (Int × (Int × ((List (List Int)) × ((List (List (List Int))) × Int)))))) (i : Int) (sv : Int) (X2 : Bool × Int → Prop) (bad3 : Bool) (v156 : Int) (X3 : Bool × Int → Prop) : Prop :=
  (((decide (v156 < (((tv.2.2.2.2.1.getD (i).toNat ([] : (List (List Int)))).getD (sv).toNat ([] : (List Int))).length : Int))) = true → (inIdx v156 ((tv.2.2.2.2.1.getD (i).toNat ([] : (List (List Int)))).getD (sv).toNat ([] : (List Int))).length ∧ (InR (v156 + (1 : Int)) ∧ X3 (((bad3 || (decide ((((tv.2.2.2.2.1.getD (i).toNat ([] : (List (List Int)))).getD (sv).toNat ([] : (List Int))).getD (v156).toNat (0 : Int)) < (0 : Int)))) || (decide (tv.2.2.1 ≤ (((tv.2.2.2.2.1.getD (i).toNat ([] : (List (List Int)))).getD (sv).toNat ([] : (List Int))).getD (v156).toNat (0 : Int))))), (v156 + (1 : Int)))))) ∧ ((decide (v156 < (((tv.2.2.2.2.1.getD (i).toNat ([] : (List (List Int)))).getD (sv).toNat ([] : (List Int))).length : Int))) = false → VC42_k5 sv X2 bad3))

def VC42_l2 (tv : (Int × (Int × (Int × ((List (List Int)) × ((List (List (List Int))) × Int)))))) (i : Int) (X1 : Bool × Int → Prop) (bad2 : Bool) (sv : Int) (X2 : Bool × Int → Prop) : Prop :=
  (((decide (sv < tv.2.1)) = true → ((bad2 = false → inIdx i tv.2.2.2.1.length) ∧ (bad2 = false → inIdx sv (tv.2.2.2.1.getD (i).toNat ([] : (List Int))).length) ∧ ((bad2 || (decide (((tv.2.2.2.1.getD (i).toNat ([] : (List Int))).getD (sv).toNat (0 : Int)) < (0 : Int)))) = false → inIdx i tv.2.2.2.1.length) ∧ ((bad2 || (decide (((tv.2.2.2.1.getD (i).toNat ([] : (List Int))).getD (sv).toNat (0 : Int)) < (0 : Int)))) = false → inIdx sv (tv.2.2.2.1.getD (i).toNat ([] : (List Int))).length) ∧ (inIdx i tv.2.2.2.2.1.length ∧ inIdx sv (tv.2.2.2.2.1.getD (i).toNat ([] : (List (List Int)))).length ∧ Loop (σ := Bool × Int) (fun s X => VC42_l3 tv i sv X2 s.1 s.2 X) (((bad2 || (decide (((tv.2.2.2.1.getD (i).toNat ([] : (List Int))).getD (sv).toNat (0 : Int)) < (0 : Int)))) || (decide (tv.1 ≤ ((tv.2.2.2.1.getD (i).toNat ([] : (List Int))).getD (sv).toNat (0 : Int))))), (0 : Int))))) ∧ ((decide (sv < tv.2.1)) = false → VC42_k4 i X1 bad2))

def VC42_l1 (tv : (Int × (Int × (Int × ((List (List Int)) × ((List (List (List Int))) × Int)))))) (K : Int → Prop) (bad : Bool) (i : Int) (X1 : Bool × Int → Prop) : Prop :=
  (((decide (i < tv.1)) = true → Loop (σ := Bool × Int) (fun s X => VC42_l2 tv i X1 s.1 s.2 X) (bad, (0 : Int))) ∧ ((decide (i < tv.1)) = false → VC42_k3 K bad))

def VC42_k2 (tv : (Int × (Int × (Int × ((List (List Int)) × ((List (List (List Int))) × Int)))))) (K : Int → Prop) : Prop :=
  Loop (σ := Bool × Int) (fun s X => VC42_l1 tv K s.1 s.2 X) (((decide (tv.2.2.2.2.2 < (0 : Int))) || (decide (tv.1 ≤ tv.2.2.2.2.2))), (0 : Int))

def VC42_k6 (i : Int) (X4 : Int → Prop) : Prop :=
  (InR (i + (1 : Int)) ∧ X4 (i + (1 : Int)))

def VC42_l5 (tv : (Int × (Int × (Int × ((List (List Int)) × ((List (List (List Int))) × Int)))))) (K : Int → Prop) (i : Int) (X4 : Int → Prop) (v92 : Int) (X5 : Int → Prop) : Prop :=
  (((decide (v92 < ((tv.2.2.2.2.1.getD (i).toNat ([] : (List (List Int)))).length : Int))) = true → (inIdx v92 (tv.2.2.2.2.1.getD (i).toNat ([] : (List (List Int)))).length ∧ (((decide ((4 : Int) < (((tv.2.2.2.2.1.getD (i).toNat ([] : (List (List Int)))).getD (v92).toNat ([] : (List Int))).length : Int))) = true → K (1 : Int)) ∧ ((decide ((4 : Int) < (((tv.2.2.2.2.1.getD (i).toNat ([] : (List (List Int)))).getD (v92).toNat ([] : (List Int))).length : Int))) = false → (InR (v92 + (1 : Int)) ∧ X5 (v92 + (1 : Int))))))) ∧ ((decide (v92 < ((tv.2.2.2.2.1.getD (i).toNat ([] : (List (List Int)))).length : Int))) = false → VC42_k6 i X4))

def VC42_l4 (tv : (Int × (Int × (Int × ((List (List Int)) × ((List (List (List Int))) × Int)))))) (K : Int → Prop) (i : Int) (X4 : Int → Prop) : Prop :=
  (((decide (i < tv.1)) = true → (inIdx i tv.2.2.2.2.1.length ∧ Loop (σ := Int) (fun s X => VC42_l5 tv K i X4 s X) (0 : Int))) ∧ ((decide (i < tv.1)) = false → VC42_k2 tv K))

def VC42_k1 (tv : (Int × (Int × (Int × ((List (List Int)) × ((List (List (List Int))) × Int)))))) (K : Int → Prop) : Prop :=
  Loop (σ := Int) (fun s X => VC42_l4 tv K s X) (0 : Int)

def VC42_l6 (tv : (Int × (Int × (Int × ((List (List Int)) × ((List (List (List Int))) × Int)))))) (K : Int → Prop) (i : Int) (X6 : Int → Prop) : Prop :=
  (((decide (i < tv.1)) = true → (inIdx i tv.2.2.2.1.length ∧ ((!decide (((tv.2.2.2.1.getD (i).toNat ([] : (List Int))).length : Int) = tv.2.1)) = false → inIdx i tv.2.2.2.2.1.length) ∧ ((((!decide (((tv.2.2.2.1.getD (i).toNat ([] : (List Int))).length : Int) = tv.2.1)) || (!decide (((tv.2.2.2.2.1.getD (i).toNat ([] : (List (List Int)))).length : Int) = tv.2.1))) = true → K (3 : Int)) ∧ (((!decide (((tv.2.2.2.1.getD (i).toNat ([] : (List Int))).length : Int) = tv.2.1)) || (!decide (((tv.2.2.2.2.1.getD (i).toNat ([] : (List (List Int)))).length : Int) = tv.2.1))) = false → (InR (i + (1 : Int)) ∧ X6 (i + (1 : Int))))))) ∧ ((decide (i < tv.1)) = false → VC42_k1 tv K))

def VC42 (tv : (Int × (Int × (Int × ((List (List Int)) × ((List (List (List Int))) × Int)))))) (K : Int → Prop) : Prop :=
  ((((((((decide (tv.1 < (1 : Int))) || (decide ((7 : Int) < tv.1))) || (decide (tv.2.1 < (1 : Int)))) || (decide ((3 : Int) < tv.2.1))) || (decide (tv.2.2.1 < (1 : Int)))) || (decide ((3 : Int) < tv.2.2.1))) = true → K (1 : Int)) ∧ (((((((decide (tv.1 < (1 : Int))) || (decide ((7 : Int) < tv.1))) || (decide (tv.2.1 < (1 : Int)))) || (decide ((3 : Int) < tv.2.1))) || (decide (tv.2.2.1 < (1 : Int)))) || (decide ((3 : Int) < tv.2.2.1))) = false → ((((!decide ((tv.2.2.2.1.length : Int) = tv.1)) || (!decide ((tv.2.2.2.2.1.length : Int) = tv.1))) = true → K (3 : Int)) ∧ (((!decide ((tv.2.2.2.1.length : Int) = tv.1)) || (!decide ((tv.2.2.2.2.1.length : Int) = tv.1))) = false → Loop (σ := Int) (fun s X => VC42_l6 tv K s X) (0 : Int)))))

set_option maxHeartbeats 4000000 in
theorem link42 (tv : (Int × (Int × (Int × ((List (List Int)) × ((List (List (List Int))) × Int)))))) (K : Int → Prop) (h : VC42 tv K) : ACalls Try.prog 42 [toV1 (.pr (.int .i64) (.pr (.int .i64) (.pr (.int .i64) (.pr (.sl (.sl (.int .i64))) (.pr (.sl (.sl (.sl (.int .i64)))) (.int .i64)))))) tv] (fun res => ∃ y, res = (fun y => [toV1 (.int .i64) y]) y ∧ K y) := by
  refine acalls_of_aw [(.int .i64)] [.t 2] Try.func42 rfl rfl rfl ?_
  unfold VC42 at h
  refine aw_seq ?_
  refine aw_region ?_
  refine awl_runp 2 [1] [1] (ob := (True ∧ True ∧ True)) (st' := (⟨173, [(1, [], .v (.c (.ptr 1 0)))], [(1, [], .box [.p (.int .i64) tv.1, .p (.int .i64) tv.2.1, .p (.int .i64) tv.2.2.1, .p (.sl (.sl (.int .i64))) tv.2.2.2.1, .p (.sl (.sl (.sl (.int .i64)))) tv.2.2.2.2.1, .p (.int .i64) tv.2.2.2.2.2])]⟩ : St)) (by kernel_rfl) ⟨trivial, trivial, trivial⟩ ?_
  refine awl_nil ?_
  refine thenQ_n ?_
  refine aw_seq ?_
  refine aw_seq ?_
  refine aw_region ?_
  refine awl_runp 28 [1, 39] [1] (ob := (True ∧ True ∧ True ∧ True ∧ ((decide (tv.1 < (1 : Int))) = false → True) ∧ ((decide (tv.1 < (1 : Int))) = false → True) ∧ ((decide (tv.1 < (1 : Int))) = false → True) ∧ True ∧ True ∧ (((decide (tv.1 < (1 : Int))) || (decide ((7 : Int) < tv.1))) = false → True) ∧ (((decide (tv.1 < (1 : Int))) || (decide ((7 : Int) < tv.1))) = false → True) ∧ (((decide (tv.1 < (1 : Int))) || (decide ((7 : Int) < tv.1))) = false → True) ∧ True ∧ True ∧ ((((decide (tv.1 < (1 : Int))) || (decide ((7 : Int) < tv.1))) || (decide (tv.2.1 < (1 : Int)))) = false → True) ∧ ((((decide (tv.1 < (1 : Int))) || (decide ((7 : Int) < tv.1))) || (decide (tv.2.1 < (1 : Int)))) = false → True) ∧ ((((decide (tv.1 < (1 : Int))) || (decide ((7 : Int) < tv.1))) || (decide (tv.2.1 < (1 : Int)))) = false → True) ∧ True ∧ True ∧ (((((decide (tv.1 < (1 : Int))) || (decide ((7 : Int) < tv.1))) || (decide (tv.2.1 < (1 : Int)))) || (decide ((3 : Int) < tv.2.1))) = false → True) ∧ (((((decide (tv.1 < (1 : Int))) || (decide ((7 : Int) < tv.1))) || (decide (tv.2.1 < (1 : Int)))) || (decide ((3 : Int) < tv.2.1))) = false → True) ∧ (((((decide (tv.1 < (1 : Int))) || (decide ((7 : Int) < tv.1))) || (decide (tv.2.1 < (1 : Int)))) || (decide ((3 : Int) < tv.2.1))) = false → True) ∧ True ∧ True ∧ ((((((decide (tv.1 < (1 : Int))) || (decide ((7 : Int) < tv.1))) || (decide (tv.2.1 < (1 : Int)))) || (decide ((3 : Int) < tv.2.1))) || (decide (tv.2.2.1 < (1 : Int)))) = false → True) ∧ ((((((decide (tv.1 < (1 : Int))) || (decide ((7 : Int) < tv.1))) || (decide (tv.2.1 < (1 : Int)))) || (decide ((3 : Int) < tv.2.1))) || (decide (tv.2.2.1 < (1 : Int)))) = false → True) ∧ ((((((decide (tv.1 < (1 : Int))) || (decide ((7 : Int) < tv.1))) || (decide (tv.2.1 < (1 : Int)))) || (decide ((3 : Int) < tv.2.1))) || (decide (tv.2.2.1 < (1 : Int)))) = false → True) ∧ True ∧ True)) (st' := (⟨173, [(1, [], .v (.c (.ptr 1 0))), (39, [], .v (.c (.p .bool ((((((decide (tv.1 < (1 : Int))) || (decide ((7 : Int) < tv.1))) || (decide (tv.2.1 < (1 : Int)))) || (decide ((3 : Int) < tv.2.1))) || (decide (tv.2.2.1 < (1 : Int)))) || (decide ((3 : Int) < tv.2.2.1))))))], [(1, [], .box [.p (.int .i64) tv.1, .p (.int .i64) tv.2.1, .p (.int .i64) tv.2.2.1, .p (.sl (.sl (.int .i64))) tv.2.2.2.1, .p (.sl (.sl (.sl (.int .i64)))) tv.2.2.2.2.1, .p (.int .i64) tv.2.2.2.2.2])]⟩ : St)) (by kernel_rfl) ⟨trivial, trivial, trivial, trivial, (fun _ => trivial), (fun _ => trivial), (fun _ => trivial), trivial, trivial, (fun _ => trivial), (fun _ => trivial), (fun _ => trivial), trivial, trivial, (fun _ => trivial), (fun _ => trivial), (fun _ => trivial), trivial, trivial, (fun _ => trivial), (fun _ => trivial), (fun _ => trivial), trivial, trivial, (fun _ => trivial), (fun _ => trivial), (fun _ => trivial), trivial, trivial⟩ ?_
  refine awl_nil ?_
  refine thenQ_n ?_
  refine aw_cond (b := ((((((decide (tv.1 < (1 : Int))) || (decide ((7 : Int) < tv.1))) || (decide (tv.2.1 < (1 : Int)))) || (decide ((3 : Int) < tv.2.1))) || (decide (tv.2.2.1 < (1 : Int)))) || (decide ((3 : Int) < tv.2.2.1)))) (by kernel_rfl) (fun hb => ?_) (fun hb => ?_)
  · have h := h.1 hb
    refine aw_seq ?_
    refine aw_region ?_
    refine awl_runp 1 [2] [] (ob := (True ∧ True)) (st' := (⟨173, [(2, [], .v (.c (.p (.int .i64) (1 : Int))))], []⟩ : St)) (by kernel_rfl) ⟨trivial, trivial⟩ ?_
    refine awl_nil ?_
    refine thenQ_n ?_
    refine aw_ret ?_
    refine thenQ_r ?_
    exact retQ_r (σ := Int) (R := (fun y => [toV1 (.int .i64) y])) (ob := (True ∧ True)) (1 : Int) (by kernel_rfl) ⟨trivial, trivial⟩ h
  · have h := h.2 hb
    refine aw_skip ?_
    refine thenQ_n ?_
    refine aw_seq ?_
    refine aw_seq ?_
    refine aw_region ?_
    refine awl_runp 14 [1, 53] [1] (ob := (True ∧ True ∧ True ∧ True ∧ True ∧ True ∧ True ∧ ((!decide ((tv.2.2.2.1.length : Int) = tv.1)) = false → True) ∧ ((!decide ((tv.2.2.2.1.length : Int) = tv.1)) = false → True) ∧ ((!decide ((tv.2.2.2.1.length : Int) = tv.1)) = false → True) ∧ ((!decide ((tv.2.2.2.1.length : Int) = tv.1)) = false → True) ∧ ((!decide ((tv.2.2.2.1.length : Int) = tv.1)) = false → True) ∧ ((!decide ((tv.2.2.2.1.length : Int) = tv.1)) = false → True) ∧ True ∧ True)) (st' := (⟨173, [(1, [], .v (.c (.ptr 1 0))), (53, [], .v (.c (.p .bool ((!decide ((tv.2.2.2.1.length : Int) = tv.1)) || (!decide ((tv.2.2.2.2.1.length : Int) = tv.1))))))], [(1, [], .box [.p (.int .i64) tv.1, .p (.int .i64) tv.2.1, .p (.int .i64) tv.2.2.1, .p (.sl (.sl (.int .i64))) tv.2.2.2.1, .p (.sl (.sl (.sl (.int .i64)))) tv.2.2.2.2.1, .p (.int .i64) tv.2.2.2.2.2])]⟩ : St)) (by kernel_rfl) ⟨trivial, trivial, trivial, trivial, trivial, trivial, trivial, (fun _ => trivial), (fun _ => trivial), (fun _ => trivial), (fun _ => trivial), (fun _ => trivial), (fun _ => trivial), trivial, trivial⟩ ?_
    refine awl_nil ?_
    refine thenQ_n ?_
    refine aw_cond (b := ((!decide ((tv.2.2.2.1.length : Int) = tv.1)) || (!decide ((tv.2.2.2.2.1.length : Int) = tv.1)))) (by kernel_rfl) (fun hb => ?_) (fun hb => ?_)
    · have h := h.1 hb
      refine aw_seq ?_
      refine aw_region ?_
      refine awl_runp 1 [2] [] (ob := (True ∧ True)) (st' := (⟨173, [(2, [], .v (.c (.p (.int .i64) (3 : Int))))], []⟩ : St)) (by kernel_rfl) ⟨trivial, trivial⟩ ?_
      refine awl_nil ?_
      refine thenQ_n ?_
      refine aw_ret ?_
      refine thenQ_r ?_
      exact retQ_r (σ := Int) (R := (fun y => [toV1 (.int .i64) y])) (ob := (True ∧ True)) (3 : Int) (by kernel_rfl) ⟨trivial, trivial⟩ h
    · have h := h.2 hb
      refine aw_skip ?_
      refine thenQ_n ?_
      refine aw_seq ?_
      refine aw_seq ?_
      refine aw_region ?_
      refine awl_runp 1 [1, 3] [1] (ob := (True ∧ True)) (st' := (⟨173, [(1, [], .v (.c (.ptr 1 0))), (3, [], .v (.c (.p (.int .i64) (0 : Int))))], [(1, [], .box [.p (.int .i64) tv.1, .p (.int .i64) tv.2.1, .p (.int .i64) tv.2.2.1, .p (.sl (.sl (.int .i64))) tv.2.2.2.1, .p (.sl (.sl (.sl (.int .i64)))) tv.2.2.2.2.1, .p (.int .i64) tv.2.2.2.2.2])]⟩ : St)) (by kernel_rfl) ⟨trivial, trivial⟩ ?_
      refine awl_nil ?_
      refine thenQ_n ?_
      refine withJoin (σ := Unit) (fun s => (⟨173, [(1, [], .v (.c (.ptr 1 0)))], [(1, [], .box [.p (.int .i64) tv.1, .p (.int .i64) tv.2.1, .p (.int .i64) tv.2.2.1, .p (.sl (.sl (.int .i64))) tv.2.2.2.1, .p (.sl (.sl (.sl (.int .i64)))) tv.2.2.2.2.1, .p (.int .i64) tv.2.2.2.2.2])]⟩ : St)) (fun s => VC42_k1 tv K) (fun s h => ?_) (fun rest6 => ?_)
      · have h : VC42_k1 tv K := h
        unfold VC42_k1 at h
        refine thenQ_n ?_
        refine aw_seq ?_
        refine aw_seq ?_
        refine aw_region ?_
        refine awl_runp 1 [1, 4] [1] (ob := (True ∧ True)) (st' := (⟨173, [(1, [], .v (.c (.ptr 1 0))), (4, [], .v (.c (.p (.int .i64) (0 : Int))))], [(1, [], .box [.p (.int .i64) tv.1, .p (.int .i64) tv.2.1, .p (.int .i64) tv.2.2.1, .p (.sl (.sl (.int .i64))) tv.2.2.2.1, .p (.sl (.sl (.sl (.int .i64)))) tv.2.2.2.2.1, .p (.int .i64) tv.2.2.2.2.2])]⟩ : St)) (by kernel_rfl) ⟨trivial, trivial⟩ ?_
        refine awl_nil ?_
        refine thenQ_n ?_
        refine withJoin (σ := Unit) (fun s => (⟨173, [(1, [], .v (.c (.ptr 1 0)))], [(1, [], .box [.p (.int .i64) tv.1, .p (.int .i64) tv.2.1, .p (.int .i64) tv.2.2.1, .p (.sl (.sl (.int .i64))) tv.2.2.2.1, .p (.sl (.sl (.sl (.int .i64)))) tv.2.2.2.2.1, .p (.int .i64) tv.2.2.2.2.2])]⟩ : St)) (fun s => VC42_k2 tv K) (fun s h => ?_) (fun rest4 => ?_)
        · have h : VC42_k2 tv K := h
          unfold VC42_k2 at h
          refine thenQ_n ?_
          refine aw_seq ?_
          refine aw_region ?_
          refine awl_runp 11 [1, 7] [1] (ob := (True ∧ True ∧ True ∧ True ∧ ((decide (tv.2.2.2.2.2 < (0 : Int))) = false → True) ∧ ((decide (tv.2.2.2.2.2 < (0 : Int))) = false → True) ∧ ((decide (tv.2.2.2.2.2 < (0 : Int))) = false → True) ∧ ((decide (tv.2.2.2.2.2 < (0 : Int))) = false → True) ∧ ((decide (tv.2.2.2.2.2 < (0 : Int))) = false → True) ∧ True ∧ True ∧ True)) (st' := (⟨173, [(1, [], .v (.c (.ptr 1 0))), (7, [], .v (.c (.p .bool ((decide (tv.2.2.2.2.2 < (0 : Int))) || (decide (tv.1 ≤ tv.2.2.2.2.2))))))], [(1, [], .box [.p (.int .i64) tv.1, .p (.int .i64) tv.2.1, .p (.int .i64) tv.2.2.1, .p (.sl (.sl (.int .i64))) tv.2.2.2.1, .p (.sl (.sl (.sl (.int .i64)))) tv.2.2.2.2.1, .p (.int .i64) tv.2.2.2.2.2])]⟩ : St)) (by kernel_rfl) ⟨trivial, trivial, trivial, trivial, (fun _ => trivial), (fun _ => trivial), (fun _ => trivial), (fun _ => trivial), (fun _ => trivial), trivial, trivial, trivial⟩ ?_
          refine awl_nil ?_
          refine thenQ_n ?_
          refine aw_seq ?_
          refine aw_seq ?_
          refine aw_region ?_
          refine awl_runp 1 [1, 7, 8] [1] (ob := (True ∧ True)) (st' := (⟨173, [(1, [], .v (.c (.ptr 1 0))), (7, [], .v (.c (.p .bool ((decide (tv.2.2.2.2.2 < (0 : Int))) || (decide (tv.1 ≤ tv.2.2.2.2.2)))))), (8, [], .v (.c (.p (.int .i64) (0 : Int))))], [(1, [], .box [.p (.int .i64) tv.1, .p (.int .i64) tv.2.1, .p (.int .i64) tv.2.2.1, .p (.sl (.sl (.int .i64))) tv.2.2.2.1, .p (.sl (.sl (.sl (.int .i64)))) tv.2.2.2.2.1, .p (.int .i64) tv.2.2.2.2.2])]⟩ : St)) (by kernel_rfl) ⟨trivial, trivial⟩ ?_
          refine awl_nil ?_
          refine thenQ_n ?_
          refine withJoin (σ := Bool) (fun s => (⟨173, [(7, [], .v (.c (.p .bool s)))], []⟩ : St)) (fun s => VC42_k3 K s) (fun bad h => ?_) (fun rest1 => ?_)
          · have h : VC42_k3 K bad := h
            unfold VC42_k3 at h
            refine thenQ_n ?_
            refine aw_seq ?_
            refine aw_seq ?_
            refine aw_region ?_
            refine awl_runp 1 [172] [] (ob := (True ∧ True)) (st' := (⟨173, [(172, [], .v (.c (.p .bool bad)))], []⟩ : St)) (by kernel_rfl) ⟨trivial, trivial⟩ ?_
            refine awl_nil ?_
            refine thenQ_n ?_
            refine aw_cond (b := bad) (by kernel_rfl) (fun hb => ?_) (fun hb => ?_)
            · have h := h.1 hb
              refine aw_seq ?_
              refine aw_region ?_
              refine awl_runp 1 [2] [] (ob := (True ∧ True)) (st' := (⟨173, [(2, [], .v (.c (.p (.int .i64) (2 : Int))))], []⟩ : St)) (by kernel_rfl) ⟨trivial, trivial⟩ ?_
              refine awl_nil ?_
              refine thenQ_n ?_
              refine aw_ret ?_
              refine thenQ_r ?_
              exact retQ_r (σ := Int) (R := (fun y => [toV1 (.int .i64) y])) (ob := (True ∧ True)) (2 : Int) (by kernel_rfl) ⟨trivial, trivial⟩ h
            · have h := h.2 hb
              refine aw_skip ?_
              refine thenQ_n ?_
              refine aw_seq ?_
              refine aw_region ?_
              refine awl_runp 1 [2] [] (ob := (True ∧ True)) (st' := (⟨173, [(2, [], .v (.c (.p (.int .i64) (0 : Int))))], []⟩ : St)) (by kernel_rfl) ⟨trivial, trivial⟩ ?_
              refine awl_nil ?_
              refine thenQ_n ?_
              refine aw_ret ?_
              exact retQ_r (σ := Int) (R := (fun y => [toV1 (.int .i64) y])) (ob := (True ∧ True)) (0 : Int) (by kernel_rfl) ⟨trivial, trivial⟩ h
          · refine aw_block ?_
            refine aw_loop (σ := Bool × Int) (fun s => (⟨173, [(1, [], .v (.c (.ptr 1 0))), (7, [], .v (.c (.p .bool s.1))), (8, [], .v (.c (.p (.int .i64) s.2)))], [(1, [], .box [.p (.int .i64) tv.1, .p (.int .i64) tv.2.1, .p (.int .i64) tv.2.2.1, .p (.sl (.sl (.int .i64))) tv.2.2.2.1, .p (.sl (.sl (.sl (.int .i64)))) tv.2.2.2.2.1, .p (.int .i64) tv.2.2.2.2.2])]⟩ : St)) (fun s X => VC42_l1 tv K s.1 s.2 X) (s0 := (((decide (tv.2.2.2.2.2 < (0 : Int))) || (decide (tv.1 ≤ tv.2.2.2.2.2))), (0 : Int))) (fun s X1 h => ?_) h
            obtain ⟨bad, i⟩ := s
            have h : VC42_l1 tv K bad i X1 := h
            unfold VC42_l1 at h
            refine aw_seq ?_
            refine aw_seq ?_
            refine aw_region ?_
            refine awl_runp 4 [1, 7, 8, 113] [1] (ob := (True ∧ True ∧ True ∧ True ∧ True)) (st' := (⟨173, [(1, [], .v (.c (.ptr 1 0))), (7, [], .v (.c (.p .bool bad))), (8, [], .v (.c (.p (.int .i64) i))), (113, [], .v (.c (.p .bool (decide (i < tv.1)))))], [(1, [], .box [.p (.int .i64) tv.1, .p (.int .i64) tv.2.1, .p (.int .i64) tv.2.2.1, .p (.sl (.sl (.int .i64))) tv.2.2.2.1, .p (.sl (.sl (.sl (.int .i64)))) tv.2.2.2.2.1, .p (.int .i64) tv.2.2.2.2.2])]⟩ : St)) (by kernel_rfl) ⟨trivial, trivial, trivial, trivial, trivial⟩ ?_
            refine awl_nil ?_
            refine thenQ_n ?_
            refine aw_cond (b := (decide (i < tv.1))) (by kernel_rfl) (fun hb => ?_) (fun hb => ?_)
            · have h := h.1 hb
              refine aw_skip ?_
              refine thenQ_n ?_
              refine aw_seq ?_
              refine aw_block ?_
              refine aw_seq ?_
              refine aw_region ?_
              refine awl_runp 1 [1, 7, 8, 9] [1] (ob := (True ∧ True)) (st' := (⟨173, [(1, [], .v (.c (.ptr 1 0))), (7, [], .v (.c (.p .bool bad))), (8, [], .v (.c (.p (.int .i64) i))), (9, [], .v (.c (.p (.int .i64) (0 : Int))))], [(1, [], .box [.p (.int .i64) tv.1, .p (.int .i64) tv.2.1, .p (.int .i64) tv.2.2.1, .p (.sl (.sl (.int .i64))) tv.2.2.2.1, .p (.sl (.sl (.sl (.int .i64)))) tv.2.2.2.2.1, .p (.int .i64) tv.2.2.2.2.2])]⟩ : St)) (by kernel_rfl) ⟨trivial, trivial⟩ ?_
              refine awl_nil ?_
              refine thenQ_n ?_
              refine withJoin (σ := Bool) (fun s => (⟨173, [(1, [], .v (.c (.ptr 1 0))), (7, [], .v (.c (.p .bool s))), (8, [], .v (.c (.p (.int .i64) i)))], [(1, [], .box [.p (.int .i64) tv.1, .p (.int .i64) tv.2.1, .p (.int .i64) tv.2.2.1, .p (.sl (.sl (.int .i64))) tv.2.2.2.1, .p (.sl (.sl (.sl (.int .i64)))) tv.2.2.2.2.1, .p (.int .i64) tv.2.2.2.2.2])]⟩ : St)) (fun s => VC42_k4 i X1 s) (fun bad2 h => ?_) (fun rest2 => ?_)
              · have h : VC42_k4 i X1 bad2 := h
                unfold VC42_k4 at h
                refine blockQ_n ?_
                refine thenQ_n ?_
                refine aw_region ?_
                obtain ⟨o1, h⟩ := h
                refine awl_runp 3 [1, 7, 8] [1] (ob := (True ∧ InR (i + (1 : Int)) ∧ True ∧ True)) (st' := (⟨173, [(1, [], .v (.c (.ptr 1 0))), (7, [], .v (.c (.p .bool bad2))), (8, [], .v (.c (.p (.int .i64) (i + (1 : Int)))))], [(1, [], .box [.p (.int .i64) tv.1, .p (.int .i64) tv.2.1, .p (.int .i64) tv.2.2.1, .p (.sl (.sl (.int .i64))) tv.2.2.2.1, .p (.sl (.sl (.sl (.int .i64)))) tv.2.2.2.2.1, .p (.int .i64) tv.2.2.2.2.2])]⟩ : St)) (by kernel_rfl) ⟨trivial, o1, trivial, trivial⟩ ?_
                refine awl_nil ?_
                exact thenQ_n ⟨(bad2, (i + (1 : Int))), rfl, h⟩
              · refine aw_block ?_
                refine aw_loop (σ := Bool × Int) (fun s => (⟨173, [(1, [], .v (.c (.ptr 1 0))), (7, [], .v (.c (.p .bool s.1))), (8, [], .v (.c (.p (.int .i64) i))), (9, [], .v (.c (.p (.int .i64) s.2)))], [(1, [], .box [.p (.int .i64) tv.1, .p (.int .i64) tv.2.1, .p (.int .i64) tv.2.2.1, .p (.sl (.sl (.int .i64))) tv.2.2.2.1, .p (.sl (.sl (.sl (.int .i64)))) tv.2.2.2.2.1, .p (.int .i64) tv.2.2.2.2.2])]⟩ : St)) (fun s X => VC42_l2 tv i X1 s.1 s.2 X) (s0 := (bad, (0 : Int))) (fun s X2 h => ?_) h
                obtain ⟨bad2, sv⟩ := s
                have h : VC42_l2 tv i X1 bad2 sv X2 := h
                unfold VC42_l2 at h
                refine aw_seq ?_
                refine aw_seq ?_
                refine aw_region ?_
                refine awl_runp 4 [1, 7, 8, 9, 119] [1] (ob := (True ∧ True ∧ True ∧ True ∧ True)) (st' := (⟨173, [(1, [], .v (.c (.ptr 1 0))), (7, [], .v (.c (.p .bool bad2))), (8, [], .v (.c (.p (.int .i64) i))), (9, [], .v (.c (.p (.int .i64) sv))), (119, [], .v (.c (.p .bool (decide (sv < tv.2.1)))))], [(1, [], .box [.p (.int .i64) tv.1, .p (.int .i64) tv.2.1, .p (.int .i64) tv.2.2.1, .p (.sl (.sl (.int .i64))) tv.2.2.2.1, .p (.sl (.sl (.sl (.int .i64)))) tv.2.2.2.2.1, .p (.int .i64) tv.2.2.2.2.2])]⟩ : St)) (by kernel_rfl) ⟨trivial, trivial, trivial, trivial, trivial⟩ ?_
                refine awl_nil ?_
                refine thenQ_n ?_
                refine aw_cond (b := (decide (sv < tv.2.1))) (by kernel_rfl) (fun hb => ?_) (fun hb => ?_)
                · have h := h.1 hb
                  refine aw_skip ?_
                  refine thenQ_n ?_
                  refine aw_seq ?_
                  refine aw_block ?_
                  refine aw_seq ?_
                  refine awd_begin [] (by kernel_rfl) ?_
                  obtain ⟨o1, o2, o3, o4, h⟩ := h
                  refine awd_runp (by kernel_rfl) [0, 1, 2, 3, 4, 5, 6, 7, 8, 9, 10, 11, 12, 13, 14, 15, 16, 17, 18, 19, 20, 21, 22, 23, 24, 25] [1, 7, 8, 9] [1] (ob := (True ∧ True ∧ (bad2 = false → True) ∧ (bad2 = false → True) ∧ (bad2 = false → True) ∧ (bad2 = false → inIdx i tv.2.2.2.1.length) ∧ (bad2 = false → True) ∧ (bad2 = false → True) ∧ (bad2 = false → inIdx sv (tv.2.2.2.1.getD (i).toNat ([] : (List Int))).length) ∧ (bad2 = false → True) ∧ (bad2 = false → True) ∧ True ∧ True ∧ ((bad2 || (decide (((tv.2.2.2.1.getD (i).toNat ([] : (List Int))).getD (sv).toNat (0 : Int)) < (0 : Int)))) = false → True) ∧ ((bad2 || (decide (((tv.2.2.2.1.getD (i).toNat ([] : (List Int))).getD (sv).toNat (0 : Int)) < (0 : Int)))) = false → True) ∧ ((bad2 || (decide (((tv.2.2.2.1.getD (i).toNat ([] : (List Int))).getD (sv).toNat (0 : Int)) < (0 : Int)))) = false → True) ∧ ((bad2 || (decide (((tv.2.2.2.1.getD (i).toNat ([] : (List Int))).getD (sv).toNat (0 : Int)) < (0 : Int)))) = false → inIdx i tv.2.2.2.1.length) ∧ ((bad2 || (decide (((tv.2.2.2.1.getD (i).toNat ([] : (List Int))).getD (sv).toNat (0 : Int)) < (0 : Int)))) = false → True) ∧ ((bad2 || (decide (((tv.2.2.2.1.getD (i).toNat ([] : (List Int))).getD (sv).toNat (0 : Int)) < (0 : Int)))) = false → True) ∧ ((bad2 || (decide (((tv.2.2.2.1.getD (i).toNat ([] : (List Int))).getD (sv).toNat (0 : Int)) < (0 : Int)))) = false → inIdx sv (tv.2.2.2.1.getD (i).toNat ([] : (List Int))).length) ∧ ((bad2 || (decide (((tv.2.2.2.1.getD (i).toNat ([] : (List Int))).getD (sv).toNat (0 : Int)) < (0 : Int)))) = false → True) ∧ ((bad2 || (decide (((tv.2.2.2.1.getD (i).toNat ([] : (List Int))).getD (sv).toNat (0 : Int)) < (0 : Int)))) = false → True) ∧ ((bad2 || (decide (((tv.2.2.2.1.getD (i).toNat ([] : (List Int))).getD (sv).toNat (0 : Int)) < (0 : Int)))) = false → True) ∧ ((bad2 || (decide (((tv.2.2.2.1.getD (i).toNat ([] : (List Int))).getD (sv).toNat (0 : Int)) < (0 : Int)))) = false → True) ∧ True ∧ True ∧ True)) (done' := [25, 24, 23, 22, 21, 20, 19, 18, 17, 16, 15, 14, 13, 12, 11, 10, 9, 8, 7, 6, 5, 4, 3, 2, 1, 0]) (st' := (⟨173, [(1, [], .v (.c (.ptr 1 0))), (7, [], .v (.c (.p .bool ((bad2 || (decide (((tv.2.2.2.1.getD (i).toNat ([] : (List Int))).getD (sv).toNat (0 : Int)) < (0 : Int)))) || (decide (tv.1 ≤ ((tv.2.2.2.1.getD (i).toNat ([] : (List Int))).getD (sv).toNat (0 : Int)))))))), (8, [], .v (.c (.p (.int .i64) i))), (9, [], .v (.c (.p (.int .i64) sv)))], [(1, [], .box [.p (.int .i64) tv.1, .p (.int .i64) tv.2.1, .p (.int .i64) tv.2.2.1, .p (.sl (.sl (.int .i64))) tv.2.2.2.1, .p (.sl (.sl (.sl (.int .i64)))) tv.2.2.2.2.1, .p (.int .i64) tv.2.2.2.2.2])]⟩ : St)) (by kernel_rfl) ⟨trivial, trivial, (fun _ => trivial), (fun _ => trivial), (fun _ => trivial), o1, (fun _ => trivial), (fun _ => trivial), o2, (fun _ => trivial), (fun _ => trivial), trivial, trivial, (fun _ => trivial), (fun _ => trivial), (fun _ => trivial), o3, (fun _ => trivial), (fun _ => trivial), o4, (fun _ => trivial), (fun _ => trivial), (fun _ => trivial), (fun _ => trivial), trivial, trivial, trivial⟩ ?_
                  refine awd_done (by kernel_rfl) ?_
                  refine thenQ_n ?_
                  refine aw_seq ?_
                  refine aw_region ?_
                  obtain ⟨o1, o2, h⟩ := h
                  refine awl_runp 10 [1, 7, 8, 9, 154, 155, 156] [1] (ob := (True ∧ True ∧ True ∧ inIdx i tv.2.2.2.2.1.length ∧ True ∧ True ∧ inIdx sv (tv.2.2.2.2.1.getD (i).toNat ([] : (List (List Int)))).length ∧ True ∧ True ∧ True ∧ True)) (st' := (⟨173, [(1, [], .v (.c (.ptr 1 0))), (7, [], .v (.c (.p .bool ((bad2 || (decide (((tv.2.2.2.1.getD (i).toNat ([] : (List Int))).getD (sv).toNat (0 : Int)) < (0 : Int)))) || (decide (tv.1 ≤ ((tv.2.2.2.1.getD (i).toNat ([] : (List Int))).getD (sv).toNat (0 : Int)))))))), (8, [], .v (.c (.p (.int .i64) i))), (9, [], .v (.c (.p (.int .i64) sv))), (154, [], .v (.c (.p (.sl (.int .i64)) ((tv.2.2.2.2.1.getD (i).toNat ([] : (List (List Int)))).getD (sv).toNat ([] : (List Int)))))), (155, [], .v (.c (.p (.int .i64) (((tv.2.2.2.2.1.getD (i).toNat ([] : (List (List Int)))).getD (sv).toNat ([] : (List Int))).length : Int)))), (156, [], .v (.c (.p (.int .i64) (0 : Int))))], [(1, [], .box [.p (.int .i64) tv.1, .p (.int .i64) tv.2.1, .p (.int .i64) tv.2.2.1, .p (.sl (.sl (.int .i64))) tv.2.2.2.1, .p (.sl (.sl (.sl (.int .i64)))) tv.2.2.2.2.1, .p (.int .i64) tv.2.2.2.2.2])]⟩ : St)) (by kernel_rfl) ⟨trivial, trivial, trivial, o1, trivial, trivial, o2, trivial, trivial, trivial, trivial⟩ ?_
                  refine awl_nil ?_
                  refine thenQ_n ?_
                  refine withJoin (σ := Bool) (fun s => (⟨173, [(1, [], .v (.c (.ptr 1 0))), (7, [], .v (.c (.p .bool s))), (8, [], .v (.c (.p (.int .i64) i))), (9, [], .v (.c (.p (.int .i64) sv)))], [(1, [], .box [.p (.int .i64) tv.1, .p (.int .i64) tv.2.1, .p (.int .i64) tv.2.2.1, .p (.sl (.sl (.int .i64))) tv.2.2.2.1, .p (.sl (.sl (.sl (.int .i64)))) tv.2.2.2.2.1, .p (.int .i64) tv.2.2.2.2.2])]⟩ : St)) (fun s => VC42_k5 sv X2 s) (fun bad3 h => ?_) (fun rest3 => ?_)
                  · have h : VC42_k5 sv X2 bad3 := h
                    unfold VC42_k5 at h
                    refine blockQ_n ?_
                    refine thenQ_n ?_
                    refine aw_region ?_
                    obtain ⟨o1, h⟩ := h
                    refine awl_runp 3 [1, 7, 8, 9] [1] (ob := (True ∧ InR (sv + (1 : Int)) ∧ True ∧ True)) (st' := (⟨173, [(1, [], .v (.c (.ptr 1 0))), (7, [], .v (.c (.p .bool bad3))), (8, [], .v (.c (.p (.int .i64) i))), (9, [], .v (.c (.p (.int .i64) (sv + (1 : Int)))))], [(1, [], .box [.p (.int .i64) tv.1, .p (.int .i64) tv.2.1, .p (.int .i64) tv.2.2.1, .p (.sl (.sl (.int .i64))) tv.2.2.2.1, .p (.sl (.sl (.sl (.int .i64)))) tv.2.2.2.2.1, .p (.int .i64) tv.2.2.2.2.2])]⟩ : St)) (by kernel_rfl) ⟨trivial, o1, trivial, trivial⟩ ?_
                    refine awl_nil ?_
                    exact thenQ_n ⟨(bad3, (sv + (1 : Int))), rfl, h⟩
                  · refine aw_block ?_
                    refine aw_loop (σ := Bool × Int) (fun s => (⟨173, [(1, [], .v (.c (.ptr 1 0))), (7, [], .v (.c (.p .bool s.1))), (8, [], .v (.c (.p (.int .i64) i))), (9, [], .v (.c (.p (.int .i64) sv))), (154, [], .v (.c (.p (.sl (.int .i64)) ((tv.2.2.2.2.1.getD (i).toNat ([] : (List (List Int)))).getD (sv).toNat ([] : (List Int)))))), (155, [], .v (.c (.p (.int .i64) (((tv.2.2.2.2.1.getD (i).toNat ([] : (List (List Int)))).getD (sv).toNat ([] : (List Int))).length : Int)))), (156, [], .v (.c (.p (.int .i64) s.2)))], [(1, [], .box [.p (.int .i64) tv.1, .p (.int .i64) tv.2.1, .p (.int .i64) tv.2.2.1, .p (.sl (.sl (.int .i64))) tv.2.2.2.1, .p (.sl (.sl (.sl (.int .i64)))) tv.2.2.2.2.1, .p (.int .i64) tv.2.2.2.2.2])]⟩ : St)) (fun s X => VC42_l3 tv i sv X2 s.1 s.2 X) (s0 := (((bad2 || (decide (((tv.2.2.2.1.getD (i).toNat ([] : (List Int))).getD (sv).toNat (0 : Int)) < (0 : Int)))) || (decide (tv.1 ≤ ((tv.2.2.2.1.getD (i).toNat ([] : (List Int))).getD (sv).toNat (0 : Int))))), (0 : Int))) (fun s X3 h => ?_) h
                    obtain ⟨bad3, v156⟩ := s
                    have h : VC42_l3 tv i sv X2 bad3 v156 X3 := h
                    unfold VC42_l3 at h
                    refine aw_seq ?_
                    refine aw_region ?_
                    refine awl_runp 1 [1, 7, 8, 9, 154, 155, 156, 157] [1] (ob := (True ∧ True)) (st' := (⟨173, [(1, [], .v (.c (.ptr 1 0))), (7, [], .v (.c (.p .bool bad3))), (8, [], .v (.c (.p (.int .i64) i))), (9, [], .v (.c (.p (.int .i64) sv))), (154, [], .v (.c (.p (.sl (.int .i64)) ((tv.2.2.2.2.1.getD (i).toNat ([] : (List (List Int)))).getD (sv).toNat ([] : (List Int)))))), (155, [], .v (.c (.p (.int .i64) (((tv.2.2.2.2.1.getD (i).toNat ([] : (List (List Int)))).getD (sv).toNat ([] : (List Int))).length : Int)))), (156, [], .v (.c (.p (.int .i64) v156))), (157, [], .v (.c (.p .bool (decide (v156 < (((tv.2.2.2.2.1.getD (i).toNat ([] : (List (List Int)))).getD (sv).toNat ([] : (List Int))).length : Int))))))], [(1, [], .box [.p (.int .i64) tv.1, .p (.int .i64) tv.2.1, .p (.int .i64) tv.2.2.1, .p (.sl (.sl (.int .i64))) tv.2.2.2.1, .p (.sl (.sl (.sl (.int .i64)))) tv.2.2.2.2.1, .p (.int .i64) tv.2.2.2.2.2])]⟩ : St)) (by kernel_rfl) ⟨trivial, trivial⟩ ?_
                    refine awl_nil ?_
                    refine thenQ_n ?_
                    refine aw_seq ?_
                    refine aw_cond (b := (decide (v156 < (((tv.2.2.2.2.1.getD (i).toNat ([] : (List (List Int)))).getD (sv).toNat ([] : (List Int))).length : Int)))) (by kernel_rfl) (fun hb => ?_) (fun hb => ?_)
                    · have h := h.1 hb
                      refine aw_skip ?_
                      refine thenQ_n ?_
                      refine aw_seq ?_
                      refine aw_block ?_
                      refine aw_seq ?_
                      refine aw_region ?_
                      obtain ⟨o1, h⟩ := h
                      refine awl_runp 3 [1, 7, 8, 9, 11, 154, 155, 156] [1] (ob := (inIdx v156 ((tv.2.2.2.2.1.getD (i).toNat ([] : (List (List Int)))).getD (sv).toNat ([] : (List Int))).length ∧ True ∧ True ∧ True)) (st' := (⟨173, [(1, [], .v (.c (.ptr 1 0))), (7, [], .v (.c (.p .bool bad3))), (8, [], .v (.c (.p (.int .i64) i))), (9, [], .v (.c (.p (.int .i64) sv))), (11, [], .v (.c (.p (.int .i64) (((tv.2.2.2.2.1.getD (i).toNat ([] : (List (List Int)))).getD (sv).toNat ([] : (List Int))).getD (v156).toNat (0 : Int))))), (154, [], .v (.c (.p (.sl (.int .i64)) ((tv.2.2.2.2.1.getD (i).toNat ([] : (List (List Int)))).getD (sv).toNat ([] : (List Int)))))), (155, [], .v (.c (.p (.int .i64) (((tv.2.2.2.2.1.getD (i).toNat ([] : (List (List Int)))).getD (sv).toNat ([] : (List Int))).length : Int)))), (156, [], .v (.c (.p (.int .i64) v156)))], [(1, [], .box [.p (.int .i64) tv.1, .p (.int .i64) tv.2.1, .p (.int .i64) tv.2.2.1, .p (.sl (.sl (.int .i64))) tv.2.2.2.1, .p (.sl (.sl (.sl (.int .i64)))) tv.2.2.2.2.1, .p (.int .i64) tv.2.2.2.2.2])]⟩ : St)) (by kernel_rfl) ⟨o1, trivial, trivial, trivial⟩ ?_
                      refine awl_nil ?_
                      refine thenQ_n ?_
                      refine aw_region ?_
                      refine awl_runp 12 [1, 7, 8, 9, 154, 155, 156] [1] (ob := (True ∧ True ∧ (bad3 = false → True) ∧ (bad3 = false → True) ∧ True ∧ True ∧ ((bad3 || (decide ((((tv.2.2.2.2.1.getD (i).toNat ([] : (List (List Int)))).getD (sv).toNat ([] : (List Int))).getD (v156).toNat (0 : Int)) < (0 : Int)))) = false → True) ∧ ((bad3 || (decide ((((tv.2.2.2.2.1.getD (i).toNat ([] : (List (List Int)))).getD (sv).toNat ([] : (List Int))).getD (v156).toNat (0 : Int)) < (0 : Int)))) = false → True) ∧ ((bad3 || (decide ((((tv.2.2.2.2.1.getD (i).toNat ([] : (List (List Int)))).getD (sv).toNat ([] : (List Int))).getD (v156).toNat (0 : Int)) < (0 : Int)))) = false → True) ∧ ((bad3 || (decide ((((tv.2.2.2.2.1.getD (i).toNat ([] : (List (List Int)))).getD (sv).toNat ([] : (List Int))).getD (v156).toNat (0 : Int)) < (0 : Int)))) = false → True) ∧ True ∧ True ∧ True)) (st' := (⟨173, [(1, [], .v (.c (.ptr 1 0))), (7, [], .v (.c (.p .bool ((bad3 || (decide ((((tv.2.2.2.2.1.getD (i).toNat ([] : (List (List Int)))).getD (sv).toNat ([] : (List Int))).getD (v156).toNat (0 : Int)) < (0 : Int)))) || (decide (tv.2.2.1 ≤ (((tv.2.2.2.2.1.getD (i).toNat ([] : (List (List Int)))).getD (sv).toNat ([] : (List Int))).getD (v156).toNat (0 : Int)))))))), (8, [], .v (.c (.p (.int .i64) i))), (9, [], .v (.c (.p (.int .i64) sv))), (154, [], .v (.c (.p (.sl (.int .i64)) ((tv.2.2.2.2.1.getD (i).toNat ([] : (List (List Int)))).getD (sv).toNat ([] : (List Int)))))), (155, [], .v (.c (.p (.int .i64) (((tv.2.2.2.2.1.getD (i).toNat ([] : (List (List Int)))).getD (sv).toNat ([] : (List Int))).length : Int)))), (156, [], .v (.c (.p (.int .i64) v156)))], [(1, [], .box [.p (.int .i64) tv.1, .p (.int .i64) tv.2.1, .p (.int .i64) tv.2.2.1, .p (.sl (.sl (.int .i64))) tv.2.2.2.1, .p (.sl (.sl (.sl (.int .i64)))) tv.2.2.2.2.1, .p (.int .i64) tv.2.2.2.2.2])]⟩ : St)) (by kernel_rfl) ⟨trivial, trivial, (fun _ => trivial), (fun _ => trivial), trivial, trivial, (fun _ => trivial), (fun _ => trivial), (fun _ => trivial), (fun _ => trivial), trivial, trivial, trivial⟩ ?_
                      refine awl_nil ?_
                      refine blockQ_n ?_
                      refine thenQ_n ?_
                      refine aw_region ?_
                      obtain ⟨o1, h⟩ := h
                      refine awl_runp 2 [1, 7, 8, 9, 154, 155, 156] [1] (ob := (InR (v156 + (1 : Int)) ∧ True ∧ True)) (st' := (⟨173, [(1, [], .v (.c (.ptr 1 0))), (7, [], .v (.c (.p .bool ((bad3 || (decide ((((tv.2.2.2.2.1.getD (i).toNat ([] : (List (List Int)))).getD (sv).toNat ([] : (List Int))).getD (v156).toNat (0 : Int)) < (0 : Int)))) || (decide (tv.2.2.1 ≤ (((tv.2.2.2.2.1.getD (i).toNat ([] : (List (List Int)))).getD (sv).toNat ([] : (List Int))).getD (v156).toNat (0 : Int)))))))), (8, [], .v (.c (.p (.int .i64) i))), (9, [], .v (.c (.p (.int .i64) sv))), (154, [], .v (.c (.p (.sl (.int .i64)) ((tv.2.2.2.2.1.getD (i).toNat ([] : (List (List Int)))).getD (sv).toNat ([] : (List Int)))))), (155, [], .v (.c (.p (.int .i64) (((tv.2.2.2.2.1.getD (i).toNat ([] : (List (List Int)))).getD (sv).toNat ([] : (List Int))).length : Int)))), (156, [], .v (.c (.p (.int .i64) (v156 + (1 : Int)))))], [(1, [], .box [.p (.int .i64) tv.1, .p (.int .i64) tv.2.1, .p (.int .i64) tv.2.2.1, .p (.sl (.sl (.int .i64))) tv.2.2.2.1, .p (.sl (.sl (.sl (.int .i64)))) tv.2.2.2.2.1, .p (.int .i64) tv.2.2.2.2.2])]⟩ : St)) (by kernel_rfl) ⟨o1, trivial, trivial⟩ ?_
                      refine awl_nil ?_
                      exact thenQ_n ⟨(((bad3 || (decide ((((tv.2.2.2.2.1.getD (i).toNat ([] : (List (List Int)))).getD (sv).toNat ([] : (List Int))).getD (v156).toNat (0 : Int)) < (0 : Int)))) || (decide (tv.2.2.1 ≤ (((tv.2.2.2.2.1.getD (i).toNat ([] : (List (List Int)))).getD (sv).toNat ([] : (List Int))).getD (v156).toNat (0 : Int))))), (v156 + (1 : Int))), rfl, h⟩
                    · have h := h.2 hb
                      refine aw_conv [.prune [1, 7, 8, 9] [1]] (st' := (⟨173, [(1, [], .v (.c (.ptr 1 0))), (7, [], .v (.c (.p .bool bad3))), (8, [], .v (.c (.p (.int .i64) i))), (9, [], .v (.c (.p (.int .i64) sv)))], [(1, [], .box [.p (.int .i64) tv.1, .p (.int .i64) tv.2.1, .p (.int .i64) tv.2.2.1, .p (.sl (.sl (.int .i64))) tv.2.2.2.1, .p (.sl (.sl (.sl (.int .i64)))) tv.2.2.2.2.1, .p (.int .i64) tv.2.2.2.2.2])]⟩ : St)) (by kernel_rfl) ?_
                      refine aw_exit ?_
                      refine thenQ_x ?_
                      refine thenQ_x ?_
                      refine blockQ_hit ?_
                      exact rest3 bad3 h
                · have h := h.2 hb
                  refine aw_conv [.prune [1, 7, 8] [1]] (st' := (⟨173, [(1, [], .v (.c (.ptr 1 0))), (7, [], .v (.c (.p .bool bad2))), (8, [], .v (.c (.p (.int .i64) i)))], [(1, [], .box [.p (.int .i64) tv.1, .p (.int .i64) tv.2.1, .p (.int .i64) tv.2.2.1, .p (.sl (.sl (.int .i64))) tv.2.2.2.1, .p (.sl (.sl (.sl (.int .i64)))) tv.2.2.2.2.1, .p (.int .i64) tv.2.2.2.2.2])]⟩ : St)) (by kernel_rfl) ?_
                  refine aw_exit ?_
                  refine thenQ_x ?_
                  refine thenQ_x ?_
                  refine blockQ_hit ?_
                  exact rest2 bad2 h
            · have h := h.2 hb
              refine aw_conv [.prune [7] []] (st' := (⟨173, [(7, [], .v (.c (.p .bool bad)))], []⟩ : St)) (by kernel_rfl) ?_
              refine aw_exit ?_
              refine thenQ_x ?_
              refine thenQ_x ?_
              refine blockQ_hit ?_
              exact rest1 bad h
        · refine aw_block ?_
          refine aw_loop (σ := Int) (fun s => (⟨173, [(1, [], .v (.c (.ptr 1 0))), (4, [], .v (.c (.p (.int .i64) s)))], [(1, [], .box [.p (.int .i64) tv.1, .p (.int .i64) tv.2.1, .p (.int .i64) tv.2.2.1, .p (.sl (.sl (.int .i64))) tv.2.2.2.1, .p (.sl (.sl (.sl (.int .i64)))) tv.2.2.2.2.1, .p (.int .i64) tv.2.2.2.2.2])]⟩ : St)) (fun s X => VC42_l4 tv K s X) (s0 := (0 : Int)) (fun i X4 h => ?_) h
          have h : VC42_l4 tv K i X4 := h
          unfold VC42_l4 at h
          refine aw_seq ?_
          refine aw_seq ?_
          refine aw_region ?_
          refine awl_runp 4 [1, 4, 83] [1] (ob := (True ∧ True ∧ True ∧ True ∧ True)) (st' := (⟨173, [(1, [], .v (.c (.ptr 1 0))), (4, [], .v (.c (.p (.int .i64) i))), (83, [], .v (.c (.p .bool (decide (i < tv.1)))))], [(1, [], .box [.p (.int .i64) tv.1, .p (.int .i64) tv.2.1, .p (.int .i64) tv.2.2.1, .p (.sl (.sl (.int .i64))) tv.2.2.2.1, .p (.sl (.sl (.sl (.int .i64)))) tv.2.2.2.2.1, .p (.int .i64) tv.2.2.2.2.2])]⟩ : St)) (by kernel_rfl) ⟨trivial, trivial, trivial, trivial, trivial⟩ ?_
          refine awl_nil ?_
          refine thenQ_n ?_
          refine aw_cond (b := (decide (i < tv.1))) (by kernel_rfl) (fun hb => ?_) (fun hb => ?_)
          · have h := h.1 hb
            refine aw_skip ?_
            refine thenQ_n ?_
            refine aw_seq ?_
            refine aw_block ?_
            refine aw_seq ?_
            refine aw_region ?_
            obtain ⟨o1, h⟩ := h
            refine awl_runp 7 [1, 4, 90, 91, 92] [1] (ob := (True ∧ True ∧ True ∧ inIdx i tv.2.2.2.2.1.length ∧ True ∧ True ∧ True ∧ True)) (st' := (⟨173, [(1, [], .v (.c (.ptr 1 0))), (4, [], .v (.c (.p (.int .i64) i))), (90, [], .v (.c (.p (.sl (.sl (.int .i64))) (tv.2.2.2.2.1.getD (i).toNat ([] : (List (List Int))))))), (91, [], .v (.c (.p (.int .i64) ((tv.2.2.2.2.1.getD (i).toNat ([] : (List (List Int)))).length : Int)))), (92, [], .v (.c (.p (.int .i64) (0 : Int))))], [(1, [], .box [.p (.int .i64) tv.1, .p (.int .i64) tv.2.1, .p (.int .i64) tv.2.2.1, .p (.sl (.sl (.int .i64))) tv.2.2.2.1, .p (.sl (.sl (.sl (.int .i64)))) tv.2.2.2.2.1, .p (.int .i64) tv.2.2.2.2.2])]⟩ : St)) (by kernel_rfl) ⟨trivial, trivial, trivial, o1, trivial, trivial, trivial, trivial⟩ ?_
            refine awl_nil ?_
            refine thenQ_n ?_
            refine withJoin (σ := Unit) (fun s => (⟨173, [(1, [], .v (.c (.ptr 1 0))), (4, [], .v (.c (.p (.int .i64) i)))], [(1, [], .box [.p (.int .i64) tv.1, .p (.int .i64) tv.2.1, .p (.int .i64) tv.2.2.1, .p (.sl (.sl (.int .i64))) tv.2.2.2.1, .p (.sl (.sl (.sl (.int .i64)))) tv.2.2.2.2.1, .p (.int .i64) tv.2.2.2.2.2])]⟩ : St)) (fun s => VC42_k6 i X4) (fun s h => ?_) (fun rest5 => ?_)
            · have h : VC42_k6 i X4 := h
              unfold VC42_k6 at h
              refine blockQ_n ?_
              refine thenQ_n ?_
              refine aw_region ?_
              obtain ⟨o1, h⟩ := h
              refine awl_runp 3 [1, 4] [1] (ob := (True ∧ InR (i + (1 : Int)) ∧ True ∧ True)) (st' := (⟨173, [(1, [], .v (.c (.ptr 1 0))), (4, [], .v (.c (.p (.int .i64) (i + (1 : Int)))))], [(1, [], .box [.p (.int .i64) tv.1, .p (.int .i64) tv.2.1, .p (.int .i64) tv.2.2.1, .p (.sl (.sl (.int .i64))) tv.2.2.2.1, .p (.sl (.sl (.sl (.int .i64)))) tv.2.2.2.2.1, .p (.int .i64) tv.2.2.2.2.2])]⟩ : St)) (by kernel_rfl) ⟨trivial, o1, trivial, trivial⟩ ?_
              refine awl_nil ?_
              exact thenQ_n ⟨(i + (1 : Int)), rfl, h⟩
            · refine aw_block ?_
              refine aw_loop (σ := Int) (fun s => (⟨173, [(1, [], .v (.c (.ptr 1 0))), (4, [], .v (.c (.p (.int .i64) i))), (90, [], .v (.c (.p (.sl (.sl (.int .i64))) (tv.2.2.2.2.1.getD (i).toNat ([] : (List (List Int))))))), (91, [], .v (.c (.p (.int .i64) ((tv.2.2.2.2.1.getD (i).toNat ([] : (List (List Int)))).length : Int)))), (92, [], .v (.c (.p (.int .i64) s)))], [(1, [], .box [.p (.int .i64) tv.1, .p (.int .i64) tv.2.1, .p (.int .i64) tv.2.2.1, .p (.sl (.sl (.int .i64))) tv.2.2.2.1, .p (.sl (.sl (.sl (.int .i64)))) tv.2.2.2.2.1, .p (.int .i64) tv.2.2.2.2.2])]⟩ : St)) (fun s X => VC42_l5 tv K i X4 s X) (s0 := (0 : Int)) (fun v92 X5 h => ?_) h
              have h : VC42_l5 tv K i X4 v92 X5 := h
              unfold VC42_l5 at h
              refine aw_seq ?_
              refine aw_region ?_
              refine awl_runp 1 [1, 4, 90, 91, 92, 93] [1] (ob := (True ∧ True)) (st' := (⟨173, [(1, [], .v (.c (.ptr 1 0))), (4, [], .v (.c (.p (.int .i64) i))), (90, [], .v (.c (.p (.sl (.sl (.int .i64))) (tv.2.2.2.2.1.getD (i).toNat ([] : (List (List Int))))))), (91, [], .v (.c (.p (.int .i64) ((tv.2.2.2.2.1.getD (i).toNat ([] : (List (List Int)))).length : Int)))), (92, [], .v (.c (.p (.int .i64) v92))), (93, [], .v (.c (.p .bool (decide (v92 < ((tv.2.2.2.2.1.getD (i).toNat ([] : (List (List Int)))).length : Int))))))], [(1, [], .box [.p (.int .i64) tv.1, .p (.int .i64) tv.2.1, .p (.int .i64) tv.2.2.1, .p (.sl (.sl (.int .i64))) tv.2.2.2.1, .p (.sl (.sl (.sl (.int .i64)))) tv.2.2.2.2.1, .p (.int .i64) tv.2.2.2.2.2])]⟩ : St)) (by kernel_rfl) ⟨trivial, trivial⟩ ?_
              refine awl_nil ?_
              refine thenQ_n ?_
              refine aw_seq ?_
              refine aw_cond (b := (decide (v92 < ((tv.2.2.2.2.1.getD (i).toNat ([] : (List (List Int)))).length : Int)))) (by kernel_rfl) (fun hb => ?_) (fun hb => ?_)
              · have h := h.1 hb
                refine aw_skip ?_
                refine thenQ_n ?_
                refine aw_seq ?_
                refine aw_block ?_
                refine aw_seq ?_
                refine aw_region ?_
                obtain ⟨o1, h⟩ := h
                refine awl_runp 3 [1, 4, 6, 90, 91, 92] [1] (ob := (inIdx v92 (tv.2.2.2.2.1.getD (i).toNat ([] : (List (List Int)))).length ∧ True ∧ True ∧ True)) (st' := (⟨173, [(1, [], .v (.c (.ptr 1 0))), (4, [], .v (.c (.p (.int .i64) i))), (6, [], .v (.c (.p (.sl (.int .i64)) ((tv.2.2.2.2.1.getD (i).toNat ([] : (List (List Int)))).getD (v92).toNat ([] : (List Int)))))), (90, [], .v (.c (.p (.sl (.sl (.int .i64))) (tv.2.2.2.2.1.getD (i).toNat ([] : (List (List Int))))))), (91, [], .v (.c (.p (.int .i64) ((tv.2.2.2.2.1.getD (i).toNat ([] : (List (List Int)))).length : Int)))), (92, [], .v (.c (.p (.int .i64) v92)))], [(1, [], .box [.p (.int .i64) tv.1, .p (.int .i64) tv.2.1, .p (.int .i64) tv.2.2.1, .p (.sl (.sl (.int .i64))) tv.2.2.2.1, .p (.sl (.sl (.sl (.int .i64)))) tv.2.2.2.2.1, .p (.int .i64) tv.2.2.2.2.2])]⟩ : St)) (by kernel_rfl) ⟨o1, trivial, trivial, trivial⟩ ?_
                refine awl_nil ?_
                refine thenQ_n ?_
                refine aw_seq ?_
                refine aw_region ?_
                refine awl_runp 3 [1, 4, 90, 91, 92, 98] [1] (ob := (True ∧ True ∧ True ∧ True)) (st' := (⟨173, [(1, [], .v (.c (.ptr 1 0))), (4, [], .v (.c (.p (.int .i64) i))), (90, [], .v (.c (.p (.sl (.sl (.int .i64))) (tv.2.2.2.2.1.getD (i).toNat ([] : (List (List Int))))))), (91, [], .v (.c (.p (.int .i64) ((tv.2.2.2.2.1.getD (i).toNat ([] : (List (List Int)))).length : Int)))), (92, [], .v (.c (.p (.int .i64) v92))), (98, [], .v (.c (.p .bool (decide ((4 : Int) < (((tv.2.2.2.2.1.getD (i).toNat ([] : (List (List Int)))).getD (v92).toNat ([] : (List Int))).length : Int))))))], [(1, [], .box [.p (.int .i64) tv.1, .p (.int .i64) tv.2.1, .p (.int .i64) tv.2.2.1, .p (.sl (.sl (.int .i64))) tv.2.2.2.1, .p (.sl (.sl (.sl (.int .i64)))) tv.2.2.2.2.1, .p (.int .i64) tv.2.2.2.2.2])]⟩ : St)) (by kernel_rfl) ⟨trivial, trivial, trivial, trivial⟩ ?_
                refine awl_nil ?_
                refine thenQ_n ?_
                refine aw_cond (b := (decide ((4 : Int) < (((tv.2.2.2.2.1.getD (i).toNat ([] : (List (List Int)))).getD (v92).toNat ([] : (List Int))).length : Int)))) (by kernel_rfl) (fun hb => ?_) (fun hb => ?_)
                · have h := h.1 hb
                  refine aw_seq ?_
                  refine aw_region ?_
                  refine awl_runp 1 [2] [] (ob := (True ∧ True)) (st' := (⟨173, [(2, [], .v (.c (.p (.int .i64) (1 : Int))))], []⟩ : St)) (by kernel_rfl) ⟨trivial, trivial⟩ ?_
                  refine awl_nil ?_
                  refine thenQ_n ?_
                  refine aw_ret ?_
                  refine blockQ_r ?_
                  refine thenQ_r ?_
                  refine thenQ_r ?_
                  refine blockQ_r ?_
                  refine blockQ_r ?_
                  refine thenQ_r ?_
                  refine thenQ_r ?_
                  refine blockQ_r ?_
                  refine thenQ_r ?_
                  exact retQ_r (σ := Int) (R := (fun y => [toV1 (.int .i64) y])) (ob := (True ∧ True)) (1 : Int) (by kernel_rfl) ⟨trivial, trivial⟩ h
                · have h := h.2 hb
                  refine aw_skip ?_
                  refine blockQ_n ?_
                  refine thenQ_n ?_
                  refine aw_region ?_
                  obtain ⟨o1, h⟩ := h
                  refine awl_runp 2 [1, 4, 90, 91, 92] [1] (ob := (InR (v92 + (1 : Int)) ∧ True ∧ True)) (st' := (⟨173, [(1, [], .v (.c (.ptr 1 0))), (4, [], .v (.c (.p (.int .i64) i))), (90, [], .v (.c (.p (.sl (.sl (.int .i64))) (tv.2.2.2.2.1.getD (i).toNat ([] : (List (List Int))))))), (91, [], .v (.c (.p (.int .i64) ((tv.2.2.2.2.1.getD (i).toNat ([] : (List (List Int)))).length : Int)))), (92, [], .v (.c (.p (.int .i64) (v92 + (1 : Int)))))], [(1, [], .box [.p (.int .i64) tv.1, .p (.int .i64) tv.2.1, .p (.int .i64) tv.2.2.1, .p (.sl (.sl (.int .i64))) tv.2.2.2.1, .p (.sl (.sl (.sl (.int .i64)))) tv.2.2.2.2.1, .p (.int .i64) tv.2.2.2.2.2])]⟩ : St)) (by kernel_rfl) ⟨o1, trivial, trivial⟩ ?_
                  refine awl_nil ?_
                  exact thenQ_n ⟨(v92 + (1 : Int)), rfl, h⟩
              · have h := h.2 hb
                refine aw_conv [.prune [1, 4] [1]] (st' := (⟨173, [(1, [], .v (.c (.ptr 1 0))), (4, [], .v (.c (.p (.int .i64) i)))], [(1, [], .box [.p (.int .i64) tv.1, .p (.int .i64) tv.2.1, .p (.int .i64) tv.2.2.1, .p (.sl (.sl (.int .i64))) tv.2.2.2.1, .p (.sl (.sl (.sl (.int .i64)))) tv.2.2.2.2.1, .p (.int .i64) tv.2.2.2.2.2])]⟩ : St)) (by kernel_rfl) ?_
                refine aw_exit ?_
                refine thenQ_x ?_
                refine thenQ_x ?_
                refine blockQ_hit ?_
                exact rest5 () h
          · have h := h.2 hb
            refine aw_conv [.prune [1] [1]] (st' := (⟨173, [(1, [], .v (.c (.ptr 1 0)))], [(1, [], .box [.p (.int .i64) tv.1, .p (.int .i64) tv.2.1, .p (.int .i64) tv.2.2.1, .p (.sl (.sl (.int .i64))) tv.2.2.2.1, .p (.sl (.sl (.sl (.int .i64)))) tv.2.2.2.2.1, .p (.int .i64) tv.2.2.2.2.2])]⟩ : St)) (by kernel_rfl) ?_
            refine aw_exit ?_
            refine thenQ_x ?_
            refine thenQ_x ?_
            refine blockQ_hit ?_
            exact rest4 () h
      · refine aw_block ?_
        refine aw_loop (σ := Int) (fun s => (⟨173, [(1, [], .v (.c (.ptr 1 0))), (3, [], .v (.c (.p (.int .i64) s)))], [(1, [], .box [.p (.int .i64) tv.1, .p (.int .i64) tv.2.1, .p (.int .i64) tv.2.2.1, .p (.sl (.sl (.int .i64))) tv.2.2.2.1, .p (.sl (.sl (.sl (.int .i64)))) tv.2.2.2.2.1, .p (.int .i64) tv.2.2.2.2.2])]⟩ : St)) (fun s X => VC42_l6 tv K s X) (s0 := (0 : Int)) (fun i X6 h => ?_) h
        have h : VC42_l6 tv K i X6 := h
        unfold VC42_l6 at h
        refine aw_seq ?_
        refine aw_seq ?_
        refine aw_region ?_
        refine awl_runp 4 [1, 3, 57] [1] (ob := (True ∧ True ∧ True ∧ True ∧ True)) (st' := (⟨173, [(1, [], .v (.c (.ptr 1 0))), (3, [], .v (.c (.p (.int .i64) i))), (57, [], .v (.c (.p .bool (decide (i < tv.1)))))], [(1, [], .box [.p (.int .i64) tv.1, .p (.int .i64) tv.2.1, .p (.int .i64) tv.2.2.1, .p (.sl (.sl (.int .i64))) tv.2.2.2.1, .p (.sl (.sl (.sl (.int .i64)))) tv.2.2.2.2.1, .p (.int .i64) tv.2.2.2.2.2])]⟩ : St)) (by kernel_rfl) ⟨trivial, trivial, trivial, trivial, trivial⟩ ?_
        refine awl_nil ?_
        refine thenQ_n ?_
        refine aw_cond (b := (decide (i < tv.1))) (by kernel_rfl) (fun hb => ?_) (fun hb => ?_)
        · have h := h.1 hb
          refine aw_skip ?_
          refine thenQ_n ?_
          refine aw_seq ?_
          refine aw_block ?_
          refine aw_seq ?_
          refine awd_begin [] (by kernel_rfl) ?_
          obtain ⟨o1, o2, h⟩ := h
          refine awd_runp (by kernel_rfl) [0, 1, 2, 3, 4, 5, 6, 7, 8, 9, 10, 11, 12, 13, 14, 15, 16, 17, 18, 19] [1, 3, 79] [1] (ob := (True ∧ True ∧ True ∧ inIdx i tv.2.2.2.1.length ∧ True ∧ True ∧ True ∧ True ∧ True ∧ True ∧ ((!decide (((tv.2.2.2.1.getD (i).toNat ([] : (List Int))).length : Int) = tv.2.1)) = false → True) ∧ ((!decide (((tv.2.2.2.1.getD (i).toNat ([] : (List Int))).length : Int) = tv.2.1)) = false → True) ∧ ((!decide (((tv.2.2.2.1.getD (i).toNat ([] : (List Int))).length : Int) = tv.2.1)) = false → True) ∧ ((!decide (((tv.2.2.2.1.getD (i).toNat ([] : (List Int))).length : Int) = tv.2.1)) = false → inIdx i tv.2.2.2.2.1.length) ∧ ((!decide (((tv.2.2.2.1.getD (i).toNat ([] : (List Int))).length : Int) = tv.2.1)) = false → True) ∧ ((!decide (((tv.2.2.2.1.getD (i).toNat ([] : (List Int))).length : Int) = tv.2.1)) = false → True) ∧ ((!decide (((tv.2.2.2.1.getD (i).toNat ([] : (List Int))).length : Int) = tv.2.1)) = false → True) ∧ ((!decide (((tv.2.2.2.1.getD (i).toNat ([] : (List Int))).length : Int) = tv.2.1)) = false → True) ∧ ((!decide (((tv.2.2.2.1.getD (i).toNat ([] : (List Int))).length : Int) = tv.2.1)) = false → True) ∧ True ∧ True)) (done' := [19, 18, 17, 16, 15, 14, 13, 12, 11, 10, 9, 8, 7, 6, 5, 4, 3, 2, 1, 0]) (st' := (⟨173, [(1, [], .v (.c (.ptr 1 0))), (3, [], .v (.c (.p (.int .i64) i))), (79, [], .v (.c (.p .bool ((!decide (((tv.2.2.2.1.getD (i).toNat ([] : (List Int))).length : Int) = tv.2.1)) || (!decide (((tv.2.2.2.2.1.getD (i).toNat ([] : (List (List Int)))).length : Int) = tv.2.1))))))], [(1, [], .box [.p (.int .i64) tv.1, .p (.int .i64) tv.2.1, .p (.int .i64) tv.2.2.1, .p (.sl (.sl (.int .i64))) tv.2.2.2.1, .p (.sl (.sl (.sl (.int .i64)))) tv.2.2.2.2.1, .p (.int .i64) tv.2.2.2.2.2])]⟩ : St)) (by kernel_rfl) ⟨trivial, trivial, trivial, o1, trivial, trivial, trivial, trivial, trivial, trivial, (fun _ => trivial), (fun _ => trivial), (fun _ => trivial), o2, (fun _ => trivial), (fun _ => trivial), (fun _ => trivial), (fun _ => trivial), (fun _ => trivial), trivial, trivial⟩ ?_
          refine awd_done (by kernel_rfl) ?_
          refine thenQ_n ?_
          refine aw_cond (b := ((!decide (((tv.2.2.2.1.getD (i).toNat ([] : (List Int))).length : Int) = tv.2.1)) || (!decide (((tv.2.2.2.2.1.getD (i).toNat ([] : (List (List Int)))).length : Int) = tv.2.1)))) (by kernel_rfl) (fun hb => ?_) (fun hb => ?_)
          · have h := h.1 hb
            refine aw_seq ?_
            refine aw_region ?_
            refine awl_runp 1 [2] [] (ob := (True ∧ True)) (st' := (⟨173, [(2, [], .v (.c (.p (.int .i64) (3 : Int))))], []⟩ : St)) (by kernel_rfl) ⟨trivial, trivial⟩ ?_
            refine awl_nil ?_
            refine thenQ_n ?_
            refine aw_ret ?_
            refine blockQ_r ?_
            refine thenQ_r ?_
            refine thenQ_r ?_
            refine blockQ_r ?_
            refine thenQ_r ?_
            exact retQ_r (σ := Int) (R := (fun y => [toV1 (.int .i64) y])) (ob := (True ∧ True)) (3 : Int) (by kernel_rfl) ⟨trivial, trivial⟩ h
          · have h := h.2 hb
            refine aw_skip ?_
            refine blockQ_n ?_
            refine thenQ_n ?_
            refine aw_region ?_
            obtain ⟨o1, h⟩ := h
            refine awl_runp 3 [1, 3] [1] (ob := (True ∧ InR (i + (1 : Int)) ∧ True ∧ True)) (st' := (⟨173, [(1, [], .v (.c (.ptr 1 0))), (3, [], .v (.c (.p (.int .i64) (i + (1 : Int)))))], [(1, [], .box [.p (.int .i64) tv.1, .p (.int .i64) tv.2.1, .p (.int .i64) tv.2.2.1, .p (.sl (.sl (.int .i64))) tv.2.2.2.1, .p (.sl (.sl (.sl (.int .i64)))) tv.2.2.2.2.1, .p (.int .i64) tv.2.2.2.2.2])]⟩ : St)) (by kernel_rfl) ⟨trivial, o1, trivial, trivial⟩ ?_
            refine awl_nil ?_
            exact thenQ_n ⟨(i + (1 : Int)), rfl, h⟩
        · have h := h.2 hb
          refine aw_conv [.prune [1] [1]] (st' := (⟨173, [(1, [], .v (.c (.ptr 1 0)))], [(1, [], .box [.p (.int .i64) tv.1, .p (.int .i64) tv.2.1, .p (.int .i64) tv.2.2.1, .p (.sl (.sl (.int .i64))) tv.2.2.2.1, .p (.sl (.sl (.sl (.int .i64)))) tv.2.2.2.2.1, .p (.int .i64) tv.2.2.2.2.2])]⟩ : St)) (by kernel_rfl) ?_
          refine aw_exit ?_
          refine thenQ_x ?_
          refine thenQ_x ?_
          refine blockQ_hit ?_
          exact rest6 () h

-- coppicer/coppicerkeep.turning
def VC15 (tv : (Int × (Int × (Int × ((List (List Int)) × ((List (List (List Int))) × Int)))))) (K : Bool → Prop) : Prop :=
  VC42 tv (fun (ret4v : Int) => K (decide (ret4v = (0 : Int))))

set_option maxHeartbeats 4000000 in
theorem link15 (tv : (Int × (Int × (Int × ((List (List Int)) × ((List (List (List Int))) × Int)))))) (K : Bool → Prop) (h : VC15 tv K) : ACalls Try.prog 15 [toV1 (.pr (.int .i64) (.pr (.int .i64) (.pr (.int .i64) (.pr (.sl (.sl (.int .i64))) (.pr (.sl (.sl (.sl (.int .i64)))) (.int .i64)))))) tv] (fun res => ∃ y, res = (fun y => [toV1 .bool y]) y ∧ K y) := by
  refine acalls_of_aw [.bool] [.t 2] Try.func15 rfl rfl rfl ?_
  unfold VC15 at h
  refine aw_seq ?_
  refine aw_region ?_
  refine awl_runp 2 [1] [1] (ob := (True ∧ True ∧ True)) (st' := (⟨6, [(1, [], .v (.c (.ptr 1 0)))], [(1, [], .box [.p (.int .i64) tv.1, .p (.int .i64) tv.2.1, .p (.int .i64) tv.2.2.1, .p (.sl (.sl (.int .i64))) tv.2.2.2.1, .p (.sl (.sl (.sl (.int .i64)))) tv.2.2.2.2.1, .p (.int .i64) tv.2.2.2.2.2])]⟩ : St)) (by kernel_rfl) ⟨trivial, trivial, trivial⟩ ?_
  refine awl_nil ?_
  refine thenQ_n ?_
  refine aw_seq ?_
  refine aw_region ?_
  refine awl_runp 1 [3] [] (ob := (True ∧ True)) (st' := (⟨6, [(3, [], .v (.agg [.p (.int .i64) tv.1, .p (.int .i64) tv.2.1, .p (.int .i64) tv.2.2.1, .p (.sl (.sl (.int .i64))) tv.2.2.2.1, .p (.sl (.sl (.sl (.int .i64)))) tv.2.2.2.2.1, .p (.int .i64) tv.2.2.2.2.2]))], []⟩ : St)) (by kernel_rfl) ⟨trivial, trivial⟩ ?_
  refine awl_callk (p := []) (l := [toV1 (.pr (.int .i64) (.pr (.int .i64) (.pr (.int .i64) (.pr (.sl (.sl (.int .i64))) (.pr (.sl (.sl (.sl (.int .i64)))) (.int .i64)))))) tv]) (cl := []) false [.d (.pr (.int .i64) (.pr (.int .i64) (.pr (.int .i64) (.pr (.sl (.sl (.int .i64))) (.pr (.sl (.sl (.sl (.int .i64)))) (.int .i64))))))] [4] [] (fun (ret4v : Int) => K (decide (ret4v = (0 : Int)))) (fun ret4v => [toV1 (.int .i64) ret4v]) (fun ret4v => (⟨6, [(4, [], .v (.c (.p (.int .i64) ret4v)))], []⟩ : St)) (by kernel_rfl) rfl (by kernel_rfl) rfl (by kernel_rfl) Try.call42 (by kernel_rfl) (fun ret4v => by kernel_rfl) (fun e => by cases e) (fun hg => link42 tv _ h) (fun hg => noF hg) (fun ret4v h => ?_)
  have h : K (decide (ret4v = (0 : Int))) := h
  refine awl_runp 2 [2] [] (ob := (True ∧ True ∧ True)) (st' := (⟨6, [(2, [], .v (.c (.p .bool (decide (ret4v = (0 : Int))))))], []⟩ : St)) (by kernel_rfl) ⟨trivial, trivial, trivial⟩ ?_
  refine awl_nil ?_
  refine thenQ_n ?_
  refine aw_ret ?_
  exact retQ_r (σ := Bool) (R := (fun y => [toV1 .bool y])) (ob := (True ∧ True)) (decide (ret4v = (0 : Int))) (by kernel_rfl) ⟨trivial, trivial⟩ h

-- coppicer/coppicerref.WordCheck
def VC16_k1 (K : Int → Prop) : Prop :=
  K (0 : Int)

def VC16_l1 (k : Int) (w : (List Int)) (K : Int → Prop) (v12 : Int) (X1 : Int → Prop) : Prop :=
  (((decide (v12 < (w.length : Int))) = true → (inIdx v12 w.length ∧ ((((decide ((w.getD (v12).toNat (0 : Int)) < (0 : Int))) || (decide (k ≤ (w.getD (v12).toNat (0 : Int))))) = true → K (2 : Int)) ∧ (((decide ((w.getD (v12).toNat (0 : Int)) < (0 : Int))) || (decide (k ≤ (w.getD (v12).toNat (0 : Int))))) = false → (InR (v12 + (1 : Int)) ∧ X1 (v12 + (1 : Int))))))) ∧ ((decide (v12 < (w.length : Int))) = false → VC16_k1 K))

def VC16 (k : Int) (w : (List Int)) (K : Int → Prop) : Prop :=
  (((decide ((12 : Int) < (w.length : Int))) = true → K (1 : Int)) ∧ ((decide ((12 : Int) < (w.length : Int))) = false → Loop (σ := Int) (fun s X => VC16_l1 k w K s X) (0 : Int)))

set_option maxHeartbeats 4000000 in
theorem link16 (k : Int) (w : (List Int)) (K : Int → Prop) (h : VC16 k w K) : ACalls Try.prog 16 [toV1 (.int .i64) k, toV1 (.sl (.int .i64)) w] (fun res => ∃ y, res = (fun y => [toV1 (.int .i64) y]) y ∧ K y) := by
  refine acalls_of_aw [(.int .i64)] [.t 4] Try.func16 rfl rfl rfl ?_
  unfold VC16 at h
  refine aw_seq ?_
  refine aw_region ?_
  refine awl_runp 1 [0, 1] [] (ob := (True ∧ True)) (st' := (⟨24, [(0, [], .v (.c (.p (.int .i64) k))), (1, [], .v (.c (.p (.sl (.int .i64)) w)))], []⟩ : St)) (by kernel_rfl) ⟨trivial, trivial⟩ ?_
  refine awl_nil ?_
  refine thenQ_n ?_
  refine aw_seq ?_
  refine aw_seq ?_
  refine aw_region ?_
  refine awl_runp 3 [0, 1, 9] [] (ob := (True ∧ True ∧ True ∧ True)) (st' := (⟨24, [(0, [], .v (.c (.p (.int .i64) k))), (1, [], .v (.c (.p (.sl (.int .i64)) w))), (9, [], .v (.c (.p .bool (decide ((12 : Int) < (w.length : Int))))))], []⟩ : St)) (by kernel_rfl) ⟨trivial, trivial, trivial, trivial⟩ ?_
  refine awl_nil ?_
  refine thenQ_n ?_
  refine aw_cond (b := (decide ((12 : Int) < (w.length : Int)))) (by kernel_rfl) (fun hb => ?_) (fun hb => ?_)
  · have h := h.1 hb
    refine aw_seq ?_
    refine aw_region ?_
    refine awl_runp 1 [4] [] (ob := (True ∧ True)) (st' := (⟨24, [(4, [], .v (.c (.p (.int .i64) (1 : Int))))], []⟩ : St)) (by kernel_rfl) ⟨trivial, trivial⟩ ?_
    refine awl_nil ?_
    refine thenQ_n ?_
    refine aw_ret ?_
    refine thenQ_r ?_
    exact retQ_r (σ := Int) (R := (fun y => [toV1 (.int .i64) y])) (ob := (True ∧ True)) (1 : Int) (by kernel_rfl) ⟨trivial, trivial⟩ h
  · have h := h.2 hb
    refine aw_skip ?_
    refine thenQ_n ?_
    refine aw_seq ?_
    refine aw_seq ?_
    refine aw_region ?_
    refine awl_runp 3 [0, 10, 11, 12] [] (ob := (True ∧ True ∧ True ∧ True)) (st' := (⟨24, [(0, [], .v (.c (.p (.int .i64) k))), (10, [], .v (.c (.p (.sl (.int .i64)) w))), (11, [], .v (.c (.p (.int .i64) (w.length : Int)))), (12, [], .v (.c (.p (.int .i64) (0 : Int))))], []⟩ : St)) (by kernel_rfl) ⟨trivial, trivial, trivial, trivial⟩ ?_
    refine awl_nil ?_
    refine thenQ_n ?_
    refine withJoin (σ := Unit) (fun s => (⟨24, [], []⟩ : St)) (fun s => VC16_k1 K) (fun s h => ?_) (fun rest1 => ?_)
    · have h : VC16_k1 K := h
      unfold VC16_k1 at h
      refine thenQ_n ?_
      refine aw_seq ?_
      refine aw_region ?_
      refine awl_runp 1 [4] [] (ob := (True ∧ True)) (st' := (⟨24, [(4, [], .v (.c (.p (.int .i64) (0 : Int))))], []⟩ : St)) (by kernel_rfl) ⟨trivial, trivial⟩ ?_
      refine awl_nil ?_
      refine thenQ_n ?_
      refine aw_ret ?_
      exact retQ_r (σ := Int) (R := (fun y => [toV1 (.int .i64) y])) (ob := (True ∧ True)) (0 : Int) (by kernel_rfl) ⟨trivial, trivial⟩ h
    · refine aw_block ?_
      refine aw_loop (σ := Int) (fun s => (⟨24, [(0, [], .v (.c (.p (.int .i64) k))), (10, [], .v (.c (.p (.sl (.int .i64)) w))), (11, [], .v (.c (.p (.int .i64) (w.length : Int)))), (12, [], .v (.c (.p (.int .i64) s)))], []⟩ : St)) (fun s X => VC16_l1 k w K s X) (s0 := (0 : Int)) (fun v12 X1 h => ?_) h
      have h : VC16_l1 k w K v12 X1 := h
      unfold VC16_l1 at h
      refine aw_seq ?_
      refine aw_region ?_
      refine awl_runp 1 [0, 10, 11, 12, 13] [] (ob := (True ∧ True)) (st' := (⟨24, [(0, [], .v (.c (.p (.int .i64) k))), (10, [], .v (.c (.p (.sl (.int .i64)) w))), (11, [], .v (.c (.p (.int .i64) (w.length : Int)))), (12, [], .v (.c (.p (.int .i64) v12))), (13, [], .v (.c (.p .bool (decide (v12 < (w.length : Int))))))], []⟩ : St)) (by kernel_rfl) ⟨trivial, trivial⟩ ?_
      refine awl_nil ?_
      refine thenQ_n ?_
      refine aw_seq ?_
      refine aw_cond (b := (decide (v12 < (w.length : Int)))) (by kernel_rfl) (fun hb => ?_) (fun hb => ?_)
      · have h := h.1 hb
        refine aw_skip ?_
        refine thenQ_n ?_
        refine aw_seq ?_
        refine aw_block ?_
        refine aw_seq ?_
        refine aw_region ?_
        obtain ⟨o1, h⟩ := h
        refine awl_runp 3 [0, 6, 10, 11, 12] [] (ob := (inIdx v12 w.length ∧ True ∧ True ∧ True)) (st' := (⟨24, [(0, [], .v (.c (.p (.int .i64) k))), (6, [], .v (.c (.p (.int .i64) (w.getD (v12).toNat (0 : Int))))), (10, [], .v (.c (.p (.sl (.int .i64)) w))), (11, [], .v (.c (.p (.int .i64) (w.length : Int)))), (12, [], .v (.c (.p (.int .i64) v12)))], []⟩ : St)) (by kernel_rfl) ⟨o1, trivial, trivial, trivial⟩ ?_
        refine awl_nil ?_
        refine thenQ_n ?_
        refine aw_seq ?_
        refine aw_region ?_
        refine awl_runp 7 [0, 10, 11, 12, 22] [] (ob := (True ∧ True ∧ True ∧ ((decide ((w.getD (v12).toNat (0 : Int)) < (0 : Int))) = false → True) ∧ ((decide ((w.getD (v12).toNat (0 : Int)) < (0 : Int))) = false → True) ∧ ((decide ((w.getD (v12).toNat (0 : Int)) < (0 : Int))) = false → True) ∧ True ∧ True)) (st' := (⟨24, [(0, [], .v (.c (.p (.int .i64) k))), (10, [], .v (.c (.p (.sl (.int .i64)) w))), (11, [], .v (.c (.p (.int .i64) (w.length : Int)))), (12, [], .v (.c (.p (.int .i64) v12))), (22, [], .v (.c (.p .bool ((decide ((w.getD (v12).toNat (0 : Int)) < (0 : Int))) || (decide (k ≤ (w.getD (v12).toNat (0 : Int))))))))], []⟩ : St)) (by kernel_rfl) ⟨trivial, trivial, trivial, (fun _ => trivial), (fun _ => trivial), (fun _ => trivial), trivial, trivial⟩ ?_
        refine awl_nil ?_
        refine thenQ_n ?_
        refine aw_cond (b := ((decide ((w.getD (v12).toNat (0 : Int)) < (0 : Int))) || (decide (k ≤ (w.getD (v12).toNat (0 : Int)))))) (by kernel_rfl) (fun hb => ?_) (fun hb => ?_)
        · have h := h.1 hb
          refine aw_seq ?_
          refine aw_region ?_
          refine awl_runp 1 [4] [] (ob := (True ∧ True)) (st' := (⟨24, [(4, [], .v (.c (.p (.int .i64) (2 : Int))))], []⟩ : St)) (by kernel_rfl) ⟨trivial, trivial⟩ ?_
          refine awl_nil ?_
          refine thenQ_n ?_
          refine aw_ret ?_
          refine blockQ_r ?_
          refine thenQ_r ?_
          refine thenQ_r ?_
          refine blockQ_r ?_
          refine thenQ_r ?_
          exact retQ_r (σ := Int) (R := (fun y => [toV1 (.int .i64) y])) (ob := (True ∧ True)) (2 : Int) (by kernel_rfl) ⟨trivial, trivial⟩ h
        · have h := h.2 hb
          refine aw_skip ?_
          refine blockQ_n ?_
          refine thenQ_n ?_
          refine aw_region ?_
          obtain ⟨o1, h⟩ := h
          refine awl_runp 2 [0, 10, 11, 12] [] (ob := (InR (v12 + (1 : Int)) ∧ True ∧ True)) (st' := (⟨24, [(0, [], .v (.c (.p (.int .i64) k))), (10, [], .v (.c (.p (.sl (.int .i64)) w))), (11, [], .v (.c (.p (.int .i64) (w.length : Int)))), (12, [], .v (.c (.p (.int .i64) (v12 + (1 : Int)))))], []⟩ : St)) (by kernel_rfl) ⟨o1, trivial, trivial⟩ ?_
          refine awl_nil ?_
          exact thenQ_n ⟨(v12 + (1 : Int)), rfl, h⟩
      · have h := h.2 hb
        refine aw_conv [.prune [] []] (st' := (⟨24, [], []⟩ : St)) (by kernel_rfl) ?_
        refine aw_exit ?_
        refine thenQ_x ?_
        refine thenQ_x ?_
        refine blockQ_hit ?_
        exact rest1 () h

-- coppicer/coppicerref.Writes
def VC17_k1 (K : (List Int) × Int → Prop) (atv2 : Int) (out : (List Int)) : Prop :=
  K (out, atv2)

def VC17_l1 (tv : (Int × (Int × (Int × ((List (List Int)) × ((List (List (List Int))) × Int)))))) (w : (List Int)) (K : (List Int) × Int → Prop) (atv2 : Int) (v13 : Int) (out : (List Int)) (X1 : Int × Int × (List Int) → Prop) : Prop :=
  (((decide (v13 < (w.length : Int))) = true → (inIdx v13 w.length ∧ (inIdx atv2 tv.2.2.2.2.1.length ∧ inIdx (w.getD (v13).toNat (0 : Int)) (tv.2.2.2.2.1.getD (atv2).toNat ([] : (List (List Int)))).length ∧ roomN (out.length + ((tv.2.2.2.2.1.getD (atv2).toNat ([] : (List (List Int)))).getD ((w.getD (v13).toNat (0 : Int))).toNat ([] : (List Int))).length) ∧ (inIdx atv2 tv.2.2.2.1.length ∧ inIdx (w.getD (v13).toNat (0 : Int)) (tv.2.2.2.1.getD (atv2).toNat ([] : (List Int))).length ∧ (InR (v13 + (1 : Int)) ∧ X1 (((tv.2.2.2.1.getD (atv2).toNat ([] : (List Int))).getD ((w.getD (v13).toNat (0 : Int))).toNat (0 : Int)), (v13 + (1 : Int)), (out ++ ((tv.2.2.2.2.1.getD (atv2).toNat ([] : (List (List Int)))).getD ((w.getD (v13).toNat (0 : Int))).toNat ([] : (List Int)))))))))) ∧ ((decide (v13 < (w.length : Int))) = false → VC17_k1 K atv2 out))

def VC17 (tv : (Int × (Int × (Int × ((List (List Int)) × ((List (List (List Int))) × Int)))))) (atv : Int) (w : (List Int)) (K : (List Int) × Int → Prop) : Prop :=
  Loop (σ := Int × Int × (List Int)) (fun s X => VC17_l1 tv w K s.1 s.2.1 s.2.2 X) (atv, (0 : Int), ([] : List Int))

set_option maxHeartbeats 4000000 in
theorem link17 (tv : (Int × (Int × (Int × ((List (List Int)) × ((List (List (List Int))) × Int)))))) (atv : Int) (w : (List Int)) (K : (List Int) × Int → Prop) (h : VC17 tv atv w K) : ACalls Try.prog 17 [toV1 (.pr (.int .i64) (.pr (.int .i64) (.pr (.int .i64) (.pr (.sl (.sl (.int .i64))) (.pr (.sl (.sl (.sl (.int .i64)))) (.int .i64)))))) tv, toV1 (.int .i64) atv, toV1 (.sl (.int .i64)) w] (fun res => ∃ y, res = (fun y => [toV1 (.sl (.int .i64)) y.1, toV1 (.int .i64) y.2]) y ∧ K y) := by
  refine acalls_of_aw [(.sl (.int .i64)), (.int .i64)] [.t 6, .t 7] Try.func17 rfl rfl rfl ?_
  unfold VC17 at h
  refine aw_seq ?_
  refine aw_region ?_
  refine awl_runp 3 [1, 2, 3] [3] (ob := (True ∧ True ∧ True ∧ True)) (st' := (⟨38, [(1, [], .v (.c (.p (.int .i64) atv))), (2, [], .v (.c (.p (.sl (.int .i64)) w))), (3, [], .v (.c (.ptr 3 0)))], [(3, [], .box [.p (.int .i64) tv.1, .p (.int .i64) tv.2.1, .p (.int .i64) tv.2.2.1, .p (.sl (.sl (.int .i64))) tv.2.2.2.1, .p (.sl (.sl (.sl (.int .i64)))) tv.2.2.2.2.1, .p (.int .i64) tv.2.2.2.2.2])]⟩ : St)) (by kernel_rfl) ⟨trivial, trivial, trivial, trivial⟩ ?_
  refine awl_nil ?_
  refine thenQ_n ?_
  refine aw_seq ?_
  refine aw_region ?_
  refine awl_runp 1 [1, 2, 3, 8] [3] (ob := (True ∧ True)) (st' := (⟨38, [(1, [], .v (.c (.p (.int .i64) atv))), (2, [], .v (.c (.p (.sl (.int .i64)) w))), (3, [], .v (.c (.ptr 3 0))), (8, [], .v (.c (.nils)))], [(3, [], .box [.p (.int .i64) tv.1, .p (.int .i64) tv.2.1, .p (.int .i64) tv.2.2.1, .p (.sl (.sl (.int .i64))) tv.2.2.2.1, .p (.sl (.sl (.sl (.int .i64)))) tv.2.2.2.2.1, .p (.int .i64) tv.2.2.2.2.2])]⟩ : St)) (by kernel_rfl) ⟨trivial, trivial⟩ ?_
  refine awl_nil ?_
  refine thenQ_n ?_
  refine aw_seq ?_
  refine aw_seq ?_
  refine aw_region ?_
  refine awl_runp 3 [1, 3, 8, 11, 12, 13] [3] (ob := (True ∧ True ∧ True ∧ True)) (st' := (⟨38, [(1, [], .v (.c (.p (.int .i64) atv))), (3, [], .v (.c (.ptr 3 0))), (8, [], .v (.c (.nils))), (11, [], .v (.c (.p (.sl (.int .i64)) w))), (12, [], .v (.c (.p (.int .i64) (w.length : Int)))), (13, [], .v (.c (.p (.int .i64) (0 : Int))))], [(3, [], .box [.p (.int .i64) tv.1, .p (.int .i64) tv.2.1, .p (.int .i64) tv.2.2.1, .p (.sl (.sl (.int .i64))) tv.2.2.2.1, .p (.sl (.sl (.sl (.int .i64)))) tv.2.2.2.2.1, .p (.int .i64) tv.2.2.2.2.2])]⟩ : St)) (by kernel_rfl) ⟨trivial, trivial, trivial, trivial⟩ ?_
  refine awl_nil ?_
  refine thenQ_n ?_
  refine withJoin (σ := Int × (List Int)) (fun s => (⟨38, [(1, [], .v (.c (.p (.int .i64) s.1))), (8, [], .v (.c (.own 5008)))], [(5008, [], .arr 3 (.int .i64) s.2)]⟩ : St)) (fun s => VC17_k1 K s.1 s.2) (fun s h => ?_) (fun rest1 => ?_)
  · obtain ⟨atv2, out⟩ := s
    have h : VC17_k1 K atv2 out := h
    unfold VC17_k1 at h
    refine thenQ_n ?_
    refine aw_seq ?_
    refine aw_region ?_
    refine awl_runp 4 [6, 7] [5008] (ob := (True ∧ True ∧ True ∧ True ∧ True)) (st' := (⟨38, [(6, [], .v (.c (.own 5008))), (7, [], .v (.c (.p (.int .i64) atv2)))], [(5008, [], .arr 3 (.int .i64) out)]⟩ : St)) (by kernel_rfl) ⟨trivial, trivial, trivial, trivial, trivial⟩ ?_
    refine awl_nil ?_
    refine thenQ_n ?_
    refine aw_conv [.freeze 5008] (st' := (⟨38, [(6, [], .v (.c (.p (.sl (.int .i64)) out))), (7, [], .v (.c (.p (.int .i64) atv2)))], []⟩ : St)) (by kernel_rfl) ?_
    refine aw_ret ?_
    exact retQ_r (σ := (List Int) × Int) (R := (fun y => [toV1 (.sl (.int .i64)) y.1, toV1 (.int .i64) y.2])) (ob := (True ∧ True ∧ True)) (out, atv2) (by kernel_rfl) ⟨trivial, trivial, trivial⟩ h
  · refine aw_block ?_
    refine aw_conv [.nilOwn 8 5008 3 (.int .i64), .prune [1, 3, 8, 11, 12, 13] [3, 5008]] (st' := (⟨38, [(1, [], .v (.c (.p (.int .i64) atv))), (3, [], .v (.c (.ptr 3 0))), (8, [], .v (.c (.own 5008))), (11, [], .v (.c (.p (.sl (.int .i64)) w))), (12, [], .v (.c (.p (.int .i64) (w.length : Int)))), (13, [], .v (.c (.p (.int .i64) (0 : Int))))], [(3, [], .box [.p (.int .i64) tv.1, .p (.int .i64) tv.2.1, .p (.int .i64) tv.2.2.1, .p (.sl (.sl (.int .i64))) tv.2.2.2.1, .p (.sl (.sl (.sl (.int .i64)))) tv.2.2.2.2.1, .p (.int .i64) tv.2.2.2.2.2]), (5008, [], .arr 3 (.int .i64) ([] : List Int))]⟩ : St)) (by kernel_rfl) ?_
    refine aw_loop (σ := Int × Int × (List Int)) (fun s => (⟨38, [(1, [], .v (.c (.p (.int .i64) s.1))), (3, [], .v (.c (.ptr 3 0))), (8, [], .v (.c (.own 5008))), (11, [], .v (.c (.p (.sl (.int .i64)) w))), (12, [], .v (.c (.p (.int .i64) (w.length : Int)))), (13, [], .v (.c (.p (.int .i64) s.2.1)))], [(3, [], .box [.p (.int .i64) tv.1, .p (.int .i64) tv.2.1, .p (.int .i64) tv.2.2.1, .p (.sl (.sl (.int .i64))) tv.2.2.2.1, .p (.sl (.sl (.sl (.int .i64)))) tv.2.2.2.2.1, .p (.int .i64) tv.2.2.2.2.2]), (5008, [], .arr 3 (.int .i64) s.2.2)]⟩ : St)) (fun s X => VC17_l1 tv w K s.1 s.2.1 s.2.2 X) (s0 := (atv, (0 : Int), ([] : List Int))) (fun s X1 h => ?_) h
    obtain ⟨atv2, v13, out⟩ := s
    have h : VC17_l1 tv w K atv2 v13 out X1 := h
    unfold VC17_l1 at h
    refine aw_seq ?_
    refine aw_region ?_
    refine awl_runp 1 [1, 3, 8, 11, 12, 13, 14] [3, 5008] (ob := (True ∧ True)) (st' := (⟨38, [(1, [], .v (.c (.p (.int .i64) atv2))), (3, [], .v (.c (.ptr 3 0))), (8, [], .v (.c (.own 5008))), (11, [], .v (.c (.p (.sl (.int .i64)) w))), (12, [], .v (.c (.p (.int .i64) (w.length : Int)))), (13, [], .v (.c (.p (.int .i64) v13))), (14, [], .v (.c (.p .bool (decide (v13 < (w.length : Int))))))], [(3, [], .box [.p (.int .i64) tv.1, .p (.int .i64) tv.2.1, .p (.int .i64) tv.2.2.1, .p (.sl (.sl (.int .i64))) tv.2.2.2.1, .p (.sl (.sl (.sl (.int .i64)))) tv.2.2.2.2.1, .p (.int .i64) tv.2.2.2.2.2]), (5008, [], .arr 3 (.int .i64) out)]⟩ : St)) (by kernel_rfl) ⟨trivial, trivial⟩ ?_
    refine awl_nil ?_
    refine thenQ_n ?_
    refine aw_seq ?_
    refine aw_cond (b := (decide (v13 < (w.length : Int)))) (by kernel_rfl) (fun hb => ?_) (fun hb => ?_)
    · have h := h.1 hb
      refine aw_skip ?_
      refine thenQ_n ?_
      refine aw_seq ?_
      refine aw_block ?_
      refine aw_seq ?_
      refine aw_region ?_
      obtain ⟨o1, h⟩ := h
      refine awl_runp 3 [1, 3, 8, 10, 11, 12, 13] [3, 5008] (ob := (inIdx v13 w.length ∧ True ∧ True ∧ True)) (st' := (⟨38, [(1, [], .v (.c (.p (.int .i64) atv2))), (3, [], .v (.c (.ptr 3 0))), (8, [], .v (.c (.own 5008))), (10, [], .v (.c (.p (.int .i64) (w.getD (v13).toNat (0 : Int))))), (11, [], .v (.c (.p (.sl (.int .i64)) w))), (12, [], .v (.c (.p (.int .i64) (w.length : Int)))), (13, [], .v (.c (.p (.int .i64) v13)))], [(3, [], .box [.p (.int .i64) tv.1, .p (.int .i64) tv.2.1, .p (.int .i64) tv.2.2.1, .p (.sl (.sl (.int .i64))) tv.2.2.2.1, .p (.sl (.sl (.sl (.int .i64)))) tv.2.2.2.2.1, .p (.int .i64) tv.2.2.2.2.2]), (5008, [], .arr 3 (.int .i64) out)]⟩ : St)) (by kernel_rfl) ⟨o1, trivial, trivial, trivial⟩ ?_
      refine awl_nil ?_
      refine thenQ_n ?_
      refine aw_seq ?_
      refine aw_region ?_
      obtain ⟨o1, o2, o3, h⟩ := h
      refine awl_runp 11 [1, 3, 8, 10, 11, 12, 13] [3, 26] (ob := (True ∧ True ∧ True ∧ True ∧ inIdx atv2 tv.2.2.2.2.1.length ∧ True ∧ True ∧ inIdx (w.getD (v13).toNat (0 : Int)) (tv.2.2.2.2.1.getD (atv2).toNat ([] : (List (List Int)))).length ∧ True ∧ roomN (out.length + ((tv.2.2.2.2.1.getD (atv2).toNat ([] : (List (List Int)))).getD ((w.getD (v13).toNat (0 : Int))).toNat ([] : (List Int))).length) ∧ True ∧ True)) (st' := (⟨38, [(1, [], .v (.c (.p (.int .i64) atv2))), (3, [], .v (.c (.ptr 3 0))), (8, [], .v (.c (.own 26))), (10, [], .v (.c (.p (.int .i64) (w.getD (v13).toNat (0 : Int))))), (11, [], .v (.c (.p (.sl (.int .i64)) w))), (12, [], .v (.c (.p (.int .i64) (w.length : Int)))), (13, [], .v (.c (.p (.int .i64) v13)))], [(3, [], .box [.p (.int .i64) tv.1, .p (.int .i64) tv.2.1, .p (.int .i64) tv.2.2.1, .p (.sl (.sl (.int .i64))) tv.2.2.2.1, .p (.sl (.sl (.sl (.int .i64)))) tv.2.2.2.2.1, .p (.int .i64) tv.2.2.2.2.2]), (26, [], .arr 3 (.int .i64) (out ++ ((tv.2.2.2.2.1.getD (atv2).toNat ([] : (List (List Int)))).getD ((w.getD (v13).toNat (0 : Int))).toNat ([] : (List Int)))))]⟩ : St)) (by kernel_rfl) ⟨trivial, trivial, trivial, trivial, o1, trivial, trivial, o2, trivial, o3, trivial, trivial⟩ ?_
      refine awl_nil ?_
      refine thenQ_n ?_
      refine aw_region ?_
      obtain ⟨o1, o2, h⟩ := h
      refine awl_runp 9 [1, 3, 8, 11, 12, 13] [3, 26] (ob := (True ∧ True ∧ True ∧ inIdx atv2 tv.2.2.2.1.length ∧ True ∧ True ∧ inIdx (w.getD (v13).toNat (0 : Int)) (tv.2.2.2.1.getD (atv2).toNat ([] : (List Int))).length ∧ True ∧ True ∧ True)) (st' := (⟨38, [(1, [], .v (.c (.p (.int .i64) ((tv.2.2.2.1.getD (atv2).toNat ([] : (List Int))).getD ((w.getD (v13).toNat (0 : Int))).toNat (0 : Int))))), (3, [], .v (.c (.ptr 3 0))), (8, [], .v (.c (.own 26))), (11, [], .v (.c (.p (.sl (.int .i64)) w))), (12, [], .v (.c (.p (.int .i64) (w.length : Int)))), (13, [], .v (.c (.p (.int .i64) v13)))], [(3, [], .box [.p (.int .i64) tv.1, .p (.int .i64) tv.2.1, .p (.int .i64) tv.2.2.1, .p (.sl (.sl (.int .i64))) tv.2.2.2.1, .p (.sl (.sl (.sl (.int .i64)))) tv.2.2.2.2.1, .p (.int .i64) tv.2.2.2.2.2]), (26, [], .arr 3 (.int .i64) (out ++ ((tv.2.2.2.2.1.getD (atv2).toNat ([] : (List (List Int)))).getD ((w.getD (v13).toNat (0 : Int))).toNat ([] : (List Int)))))]⟩ : St)) (by kernel_rfl) ⟨trivial, trivial, trivial, o1, trivial, trivial, o2, trivial, trivial, trivial⟩ ?_
      refine awl_nil ?_
      refine blockQ_n ?_
      refine thenQ_n ?_
      refine aw_region ?_
      obtain ⟨o1, h⟩ := h
      refine awl_runp 2 [1, 3, 8, 11, 12, 13] [3, 26] (ob := (InR (v13 + (1 : Int)) ∧ True ∧ True)) (st' := (⟨38, [(1, [], .v (.c (.p (.int .i64) ((tv.2.2.2.1.getD (atv2).toNat ([] : (List Int))).getD ((w.getD (v13).toNat (0 : Int))).toNat (0 : Int))))), (3, [], .v (.c (.ptr 3 0))), (8, [], .v (.c (.own 26))), (11, [], .v (.c (.p (.sl (.int .i64)) w))), (12, [], .v (.c (.p (.int .i64) (w.length : Int)))), (13, [], .v (.c (.p (.int .i64) (v13 + (1 : Int)))))], [(3, [], .box [.p (.int .i64) tv.1, .p (.int .i64) tv.2.1, .p (.int .i64) tv.2.2.1, .p (.sl (.sl (.int .i64))) tv.2.2.2.1, .p (.sl (.sl (.sl (.int .i64)))) tv.2.2.2.2.1, .p (.int .i64) tv.2.2.2.2.2]), (26, [], .arr 3 (.int .i64) (out ++ ((tv.2.2.2.2.1.getD (atv2).toNat ([] : (List (List Int)))).getD ((w.getD (v13).toNat (0 : Int))).toNat ([] : (List Int)))))]⟩ : St)) (by kernel_rfl) ⟨o1, trivial, trivial⟩ ?_
      refine awl_conv [.ren 26 20026, .ren 20026 5008] (st' := (⟨38, [(1, [], .v (.c (.p (.int .i64) ((tv.2.2.2.1.getD (atv2).toNat ([] : (List Int))).getD ((w.getD (v13).toNat (0 : Int))).toNat (0 : Int))))), (3, [], .v (.c (.ptr 3 0))), (8, [], .v (.c (.own 5008))), (11, [], .v (.c (.p (.sl (.int .i64)) w))), (12, [], .v (.c (.p (.int .i64) (w.length : Int)))), (13, [], .v (.c (.p (.int .i64) (v13 + (1 : Int)))))], [(3, [], .box [.p (.int .i64) tv.1, .p (.int .i64) tv.2.1, .p (.int .i64) tv.2.2.1, .p (.sl (.sl (.int .i64))) tv.2.2.2.1, .p (.sl (.sl (.sl (.int .i64)))) tv.2.2.2.2.1, .p (.int .i64) tv.2.2.2.2.2]), (5008, [], .arr 3 (.int .i64) (out ++ ((tv.2.2.2.2.1.getD (atv2).toNat ([] : (List (List Int)))).getD ((w.getD (v13).toNat (0 : Int))).toNat ([] : (List Int)))))]⟩ : St)) (by kernel_rfl) ?_
      refine awl_nil ?_
      exact thenQ_n ⟨(((tv.2.2.2.1.getD (atv2).toNat ([] : (List Int))).getD ((w.getD (v13).toNat (0 : Int))).toNat (0 : Int)), (v13 + (1 : Int)), (out ++ ((tv.2.2.2.2.1.getD (atv2).toNat ([] : (List (List Int)))).getD ((w.getD (v13).toNat (0 : Int))).toNat ([] : (List Int))))), rfl, h⟩
    · have h := h.2 hb
      refine aw_conv [.prune [1, 8] [5008]] (st' := (⟨38, [(1, [], .v (.c (.p (.int .i64) atv2))), (8, [], .v (.c (.own 5008)))], [(5008, [], .arr 3 (.int .i64) out)]⟩ : St)) (by kernel_rfl) ?_
      refine aw_exit ?_
      refine thenQ_x ?_
      refine thenQ_x ?_
      refine blockQ_hit ?_
      exact rest1 (atv2, out) h

-- coppicer/coppicerref.Ints
def VC18_k1 (K : Bool → Prop) : Prop :=
  K true

def VC18_l1 (a : (List Int)) (b : (List Int)) (K : Bool → Prop) (i : Int) (X1 : Int → Prop) : Prop :=
  (((decide (i < (a.length : Int))) = true → (inIdx i a.length ∧ inIdx i b.length ∧ (((!decide ((a.getD (i).toNat (0 : Int)) = (b.getD (i).toNat (0 : Int)))) = true → K false) ∧ ((!decide ((a.getD (i).toNat (0 : Int)) = (b.getD (i).toNat (0 : Int)))) = false → (InR (i + (1 : Int)) ∧ X1 (i + (1 : Int))))))) ∧ ((decide (i < (a.length : Int))) = false → VC18_k1 K))

def VC18 (a : (List Int)) (b : (List Int)) (K : Bool → Prop) : Prop :=
  (((!decide ((a.length : Int) = (b.length : Int))) = true → K false) ∧ ((!decide ((a.length : Int) = (b.length : Int))) = false → Loop (σ := Int) (fun s X => VC18_l1 a b K s X) (0 : Int)))

set_option maxHeartbeats 4000000 in
theorem link18 (a : (List Int)) (b : (List Int)) (K : Bool → Prop) (h : VC18 a b K) : ACalls Try.prog 18 [toV1 (.sl (.int .i64)) a, toV1 (.sl (.int .i64)) b] (fun res => ∃ y, res = (fun y => [toV1 .bool y]) y ∧ K y) := by
  refine acalls_of_aw [.bool] [.t 4] Try.func18 rfl rfl rfl ?_
  unfold VC18 at h
  refine aw_seq ?_
  refine aw_region ?_
  refine awl_runp 1 [0, 1] [] (ob := (True ∧ True)) (st' := (⟨26, [(0, [], .v (.c (.p (.sl (.int .i64)) a))), (1, [], .v (.c (.p (.sl (.int .i64)) b)))], []⟩ : St)) (by kernel_rfl) ⟨trivial, trivial⟩ ?_
  refine awl_nil ?_
  refine thenQ_n ?_
  refine aw_seq ?_
  refine aw_seq ?_
  refine aw_region ?_
  refine awl_runp 5 [0, 1, 10] [] (ob := (True ∧ True ∧ True ∧ True ∧ True ∧ True)) (st' := (⟨26, [(0, [], .v (.c (.p (.sl (.int .i64)) a))), (1, [], .v (.c (.p (.sl (.int .i64)) b))), (10, [], .v (.c (.p .bool (!decide ((a.length : Int) = (b.length : Int))))))], []⟩ : St)) (by kernel_rfl) ⟨trivial, trivial, trivial, trivial, trivial, trivial⟩ ?_
  refine awl_nil ?_
  refine thenQ_n ?_
  refine aw_cond (b := (!decide ((a.length : Int) = (b.length : Int)))) (by kernel_rfl) (fun hb => ?_) (fun hb => ?_)
  · have h := h.1 hb
    refine aw_seq ?_
    refine aw_region ?_
    refine awl_runp 1 [4] [] (ob := (True ∧ True)) (st' := (⟨26, [(4, [], .v (.c (.p .bool false)))], []⟩ : St)) (by kernel_rfl) ⟨trivial, trivial⟩ ?_
    refine awl_nil ?_
    refine thenQ_n ?_
    refine aw_ret ?_
    refine thenQ_r ?_
    exact retQ_r (σ := Bool) (R := (fun y => [toV1 .bool y])) (ob := (True ∧ True)) false (by kernel_rfl) ⟨trivial, trivial⟩ h
  · have h := h.2 hb
    refine aw_skip ?_
    refine thenQ_n ?_
    refine aw_seq ?_
    refine aw_seq ?_
    refine aw_region ?_
    refine awl_runp 1 [0, 1, 5] [] (ob := (True ∧ True)) (st' := (⟨26, [(0, [], .v (.c (.p (.sl (.int .i64)) a))), (1, [], .v (.c (.p (.sl (.int .i64)) b))), (5, [], .v (.c (.p (.int .i64) (0 : Int))))], []⟩ : St)) (by kernel_rfl) ⟨trivial, trivial⟩ ?_
    refine awl_nil ?_
    refine thenQ_n ?_
    refine withJoin (σ := Unit) (fun s => (⟨26, [], []⟩ : St)) (fun s => VC18_k1 K) (fun s h => ?_) (fun rest1 => ?_)
    · have h : VC18_k1 K := h
      unfold VC18_k1 at h
      refine thenQ_n ?_
      refine aw_seq ?_
      refine aw_region ?_
      refine awl_runp 1 [4] [] (ob := (True ∧ True)) (st' := (⟨26, [(4, [], .v (.c (.p .bool true)))], []⟩ : St)) (by kernel_rfl) ⟨trivial, trivial⟩ ?_
      refine awl_nil ?_
      refine thenQ_n ?_
      refine aw_ret ?_
      exact retQ_r (σ := Bool) (R := (fun y => [toV1 .bool y])) (ob := (True ∧ True)) true (by kernel_rfl) ⟨trivial, trivial⟩ h
    · refine aw_block ?_
      refine aw_loop (σ := Int) (fun s => (⟨26, [(0, [], .v (.c (.p (.sl (.int .i64)) a))), (1, [], .v (.c (.p (.sl (.int .i64)) b))), (5, [], .v (.c (.p (.int .i64) s)))], []⟩ : St)) (fun s X => VC18_l1 a b K s X) (s0 := (0 : Int)) (fun i X1 h => ?_) h
      have h : VC18_l1 a b K i X1 := h
      unfold VC18_l1 at h
      refine aw_seq ?_
      refine aw_seq ?_
      refine aw_region ?_
      refine awl_runp 4 [0, 1, 5, 14] [] (ob := (True ∧ True ∧ True ∧ True ∧ True)) (st' := (⟨26, [(0, [], .v (.c (.p (.sl (.int .i64)) a))), (1, [], .v (.c (.p (.sl (.int .i64)) b))), (5, [], .v (.c (.p (.int .i64) i))), (14, [], .v (.c (.p .bool (decide (i < (a.length : Int))))))], []⟩ : St)) (by kernel_rfl) ⟨trivial, trivial, trivial, trivial, trivial⟩ ?_
      refine awl_nil ?_
      refine thenQ_n ?_
      refine aw_cond (b := (decide (i < (a.length : Int)))) (by kernel_rfl) (fun hb => ?_) (fun hb => ?_)
      · have h := h.1 hb
        refine aw_skip ?_
        refine thenQ_n ?_
        refine aw_seq ?_
        refine aw_block ?_
        refine aw_seq ?_
        refine awd_begin [] (by kernel_rfl) ?_
        obtain ⟨o1, o2, h⟩ := h
        refine awd_runp (by kernel_rfl) [0, 1, 2, 3, 4, 5, 6, 7, 8] [0, 1, 5, 25] [] (ob := (True ∧ True ∧ inIdx i a.length ∧ True ∧ True ∧ True ∧ inIdx i b.length ∧ True ∧ True ∧ True)) (done' := [8, 7, 6, 5, 4, 3, 2, 1, 0]) (st' := (⟨26, [(0, [], .v (.c (.p (.sl (.int .i64)) a))), (1, [], .v (.c (.p (.sl (.int .i64)) b))), (5, [], .v (.c (.p (.int .i64) i))), (25, [], .v (.c (.p .bool (!decide ((a.getD (i).toNat (0 : Int)) = (b.getD (i).toNat (0 : Int)))))))], []⟩ : St)) (by kernel_rfl) ⟨trivial, trivial, o1, trivial, trivial, trivial, o2, trivial, trivial, trivial⟩ ?_
        refine awd_done (by kernel_rfl) ?_
        refine thenQ_n ?_
        refine aw_cond (b := (!decide ((a.getD (i).toNat (0 : Int)) = (b.getD (i).toNat (0 : Int))))) (by kernel_rfl) (fun hb => ?_) (fun hb => ?_)
        · have h := h.1 hb
          refine aw_seq ?_
          refine aw_region ?_
          refine awl_runp 1 [4] [] (ob := (True ∧ True)) (st' := (⟨26, [(4, [], .v (.c (.p .bool false)))], []⟩ : St)) (by kernel_rfl) ⟨trivial, trivial⟩ ?_
          refine awl_nil ?_
          refine thenQ_n ?_
          refine aw_ret ?_
          refine blockQ_r ?_
          refine thenQ_r ?_
          refine thenQ_r ?_
          refine blockQ_r ?_
          refine thenQ_r ?_
          exact retQ_r (σ := Bool) (R := (fun y => [toV1 .bool y])) (ob := (True ∧ True)) false (by kernel_rfl) ⟨trivial, trivial⟩ h
        · have h := h.2 hb
          refine aw_skip ?_
          refine blockQ_n ?_
          refine thenQ_n ?_
          refine aw_region ?_
          obtain ⟨o1, h⟩ := h
          refine awl_runp 3 [0, 1, 5] [] (ob := (True ∧ InR (i + (1 : Int)) ∧ True ∧ True)) (st' := (⟨26, [(0, [], .v (.c (.p (.sl (.int .i64)) a))), (1, [], .v (.c (.p (.sl (.int .i64)) b))), (5, [], .v (.c (.p (.int .i64) (i + (1 : Int)))))], []⟩ : St)) (by kernel_rfl) ⟨trivial, o1, trivial, trivial⟩ ?_
          refine awl_nil ?_
          exact thenQ_n ⟨(i + (1 : Int)), rfl, h⟩
      · have h := h.2 hb
        refine aw_conv [.prune [] []] (st' := (⟨26, [], []⟩ : St)) (by kernel_rfl) ?_
        refine aw_exit ?_
        refine thenQ_x ?_
        refine thenQ_x ?_
        refine blockQ_hit ?_
        exact rest1 () h

end Dec
