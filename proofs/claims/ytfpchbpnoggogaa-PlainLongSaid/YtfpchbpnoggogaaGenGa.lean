/-
  Printed by dec2.py: of each function its plain demand, and that the demand gives the contract.
-/
import Derived.Test.YtfpchbpnoggogaaProg
import Derived.Test.YtfpchbpnoggogaaDecT
set_option linter.unusedVariables false
set_option linter.unusedSimpArgs false
set_option maxRecDepth 100000
namespace Dec
open Go Go.RowKit Go.Proofs

-- coppicer/grammar.Check$1
def VC79 (n : Int) (low : Int) (high : Int) (K : Bool → Prop) : Prop :=
  K ((decide (low ≤ n)) && (decide (n ≤ high)))

set_option maxHeartbeats 4000000 in
theorem link79 (n : Int) (low : Int) (high : Int) (K : Bool → Prop) (h : VC79 n low high K) : ACalls Try.prog 79 [toV1 (.int .i64) n, toV1 (.int .i64) low, toV1 (.int .i64) high] (fun res => ∃ y, res = (fun y => [toV1 .bool y]) y ∧ K y) := by
  refine acalls_of_aw [.bool] [.t 6] Try.func79 rfl rfl rfl ?_
  unfold VC79 at h
  refine aw_seq ?_
  refine aw_region ?_
  refine awl_runp 1 [0, 1, 2] [] (ob := (True ∧ True)) (st' := (⟨15, [(0, [], .v (.c (.p (.int .i64) n))), (1, [], .v (.c (.p (.int .i64) low))), (2, [], .v (.c (.p (.int .i64) high)))], []⟩ : St)) (by kernel_rfl) ⟨trivial, trivial⟩ ?_
  refine awl_nil ?_
  refine thenQ_n ?_
  refine aw_seq ?_
  refine aw_region ?_
  refine awl_runp 9 [6] [] (ob := (True ∧ True ∧ True ∧ True ∧ ((decide (low ≤ n)) = true → True) ∧ ((decide (low ≤ n)) = true → True) ∧ ((decide (low ≤ n)) = true → True) ∧ True ∧ True ∧ True)) (st' := (⟨15, [(6, [], .v (.c (.p .bool ((decide (low ≤ n)) && (decide (n ≤ high))))))], []⟩ : St)) (by kernel_rfl) ⟨trivial, trivial, trivial, trivial, (fun _ => trivial), (fun _ => trivial), (fun _ => trivial), trivial, trivial, trivial⟩ ?_
  refine awl_nil ?_
  refine thenQ_n ?_
  refine aw_ret ?_
  exact retQ_r (σ := Bool) (R := (fun y => [toV1 .bool y])) (ob := (True ∧ True)) ((decide (low ≤ n)) && (decide (n ≤ high))) (by kernel_rfl) ⟨trivial, trivial⟩ h

-- slices.IndexFunc[[]coppicer/api.Rule,coppicer/api.Rule]
def VC55_k1 (K : Int → Prop) : Prop :=
  K (-1 : Int)

def VC55_l1 (sv : (List (Int × (List Int)))) (F1 : (Int × (List Int)) → (Bool → Prop) → Prop) (K : Int → Prop) (v8 : Int) (X1 : Int → Prop) : Prop :=
  (((decide (v8 < (sv.length : Int))) = true → (inIdx v8 sv.length ∧ F1 (sv.getD (v8).toNat ((0 : Int), ([] : (List Int)))) (fun (ret16v : Bool) => ((ret16v = true → K v8) ∧ (ret16v = false → (InR (v8 + (1 : Int)) ∧ X1 (v8 + (1 : Int)))))))) ∧ ((decide (v8 < (sv.length : Int))) = false → VC55_k1 K))

def VC55 (sv : (List (Int × (List Int)))) (F1 : (Int × (List Int)) → (Bool → Prop) → Prop) (K : Int → Prop) : Prop :=
  Loop (σ := Int) (fun s X => VC55_l1 sv F1 K s X) (0 : Int)

set_option maxHeartbeats 4000000 in
theorem link55 (sv : (List (Int × (List Int)))) (fv1 : FuncId) (cv1 : List Dat) (F1 : (Int × (List Int)) → (Bool → Prop) → Prop) (hF1 : FnIs Try.prog fv1 cv1 (fun (x : (Int × (List Int))) => [toV1 (.pr (.int .i64) (.sl (.int .i64))) x]) (fun (y : Bool) => [toV1 .bool y]) F1) (K : Int → Prop) (h : VC55 sv F1 K) : ACalls Try.prog 55 [toV1 (.sl (.pr (.int .i64) (.sl (.int .i64)))) sv, .c (.fn fv1 cv1)] (fun res => ∃ y, res = (fun y => [toV1 (.int .i64) y]) y ∧ K y) := by
  refine acalls_of_aw [(.int .i64)] [.t 4] Try.func55 rfl rfl rfl ?_
  unfold VC55 at h
  refine aw_seq ?_
  refine aw_region ?_
  refine awl_runp 1 [0, 1] [] (ob := (True ∧ True)) (st' := (⟨19, [(0, [], .v (.c (.p (.sl (.pr (.int .i64) (.sl (.int .i64)))) sv))), (1, [], .v (.c (.fn fv1 cv1)))], []⟩ : St)) (by kernel_rfl) ⟨trivial, trivial⟩ ?_
  refine awl_nil ?_
  refine thenQ_n ?_
  refine aw_seq ?_
  refine aw_seq ?_
  refine aw_region ?_
  refine awl_runp 3 [0, 1, 7, 8] [] (ob := (True ∧ True ∧ True ∧ True)) (st' := (⟨19, [(0, [], .v (.c (.p (.sl (.pr (.int .i64) (.sl (.int .i64)))) sv))), (1, [], .v (.c (.fn fv1 cv1))), (7, [], .v (.c (.p (.int .i64) (sv.length : Int)))), (8, [], .v (.c (.p (.int .i64) (0 : Int))))], []⟩ : St)) (by kernel_rfl) ⟨trivial, trivial, trivial, trivial⟩ ?_
  refine awl_nil ?_
  refine thenQ_n ?_
  refine withJoin (σ := Unit) (fun s => (⟨19, [], []⟩ : St)) (fun s => VC55_k1 K) (fun s h => ?_) (fun rest1 => ?_)
  · have h : VC55_k1 K := h
    unfold VC55_k1 at h
    refine thenQ_n ?_
    refine aw_seq ?_
    refine aw_region ?_
    refine awl_runp 1 [4] [] (ob := (True ∧ True)) (st' := (⟨19, [(4, [], .v (.c (.p (.int .i64) (-1 : Int))))], []⟩ : St)) (by kernel_rfl) ⟨trivial, trivial⟩ ?_
    refine awl_nil ?_
    refine thenQ_n ?_
    refine aw_ret ?_
    exact retQ_r (σ := Int) (R := (fun y => [toV1 (.int .i64) y])) (ob := (True ∧ True)) (-1 : Int) (by kernel_rfl) ⟨trivial, trivial⟩ h
  · refine aw_block ?_
    refine aw_loop (σ := Int) (fun s => (⟨19, [(0, [], .v (.c (.p (.sl (.pr (.int .i64) (.sl (.int .i64)))) sv))), (1, [], .v (.c (.fn fv1 cv1))), (7, [], .v (.c (.p (.int .i64) (sv.length : Int)))), (8, [], .v (.c (.p (.int .i64) s)))], []⟩ : St)) (fun s X => VC55_l1 sv F1 K s X) (s0 := (0 : Int)) (fun v8 X1 h => ?_) h
    have h : VC55_l1 sv F1 K v8 X1 := h
    unfold VC55_l1 at h
    refine aw_seq ?_
    refine aw_region ?_
    refine awl_runp 1 [0, 1, 7, 8, 9] [] (ob := (True ∧ True)) (st' := (⟨19, [(0, [], .v (.c (.p (.sl (.pr (.int .i64) (.sl (.int .i64)))) sv))), (1, [], .v (.c (.fn fv1 cv1))), (7, [], .v (.c (.p (.int .i64) (sv.length : Int)))), (8, [], .v (.c (.p (.int .i64) v8))), (9, [], .v (.c (.p .bool (decide (v8 < (sv.length : Int))))))], []⟩ : St)) (by kernel_rfl) ⟨trivial, trivial⟩ ?_
    refine awl_nil ?_
    refine thenQ_n ?_
    refine aw_seq ?_
    refine aw_cond (b := (decide (v8 < (sv.length : Int)))) (by kernel_rfl) (fun hb => ?_) (fun hb => ?_)
    · have h := h.1 hb
      refine aw_skip ?_
      refine thenQ_n ?_
      refine aw_seq ?_
      refine aw_block ?_
      refine aw_seq ?_
      refine aw_region ?_
      refine awl_runp 2 [0, 1, 5, 7, 8] [] (ob := (True ∧ True ∧ True)) (st' := (⟨19, [(0, [], .v (.c (.p (.sl (.pr (.int .i64) (.sl (.int .i64)))) sv))), (1, [], .v (.c (.fn fv1 cv1))), (5, [], .v (.c (.p (.int .i64) v8))), (7, [], .v (.c (.p (.int .i64) (sv.length : Int)))), (8, [], .v (.c (.p (.int .i64) v8)))], []⟩ : St)) (by kernel_rfl) ⟨trivial, trivial, trivial⟩ ?_
      refine awl_nil ?_
      refine thenQ_n ?_
      refine aw_seq ?_
      refine aw_region ?_
      obtain ⟨o1, h⟩ := h
      refine awl_runp 5 [0, 1, 5, 7, 8, 11, 15] [] (ob := (True ∧ True ∧ True ∧ inIdx v8 sv.length ∧ True ∧ True)) (st' := (⟨19, [(0, [], .v (.c (.p (.sl (.pr (.int .i64) (.sl (.int .i64)))) sv))), (1, [], .v (.c (.fn fv1 cv1))), (5, [], .v (.c (.p (.int .i64) v8))), (7, [], .v (.c (.p (.int .i64) (sv.length : Int)))), (8, [], .v (.c (.p (.int .i64) v8))), (11, [], .v (.c (.fn fv1 cv1))), (15, [], .v (.agg [.p (.int .i64) ((sv.getD (v8).toNat ((0 : Int), ([] : (List Int)))).1), .p (.sl (.int .i64)) ((sv.getD (v8).toNat ((0 : Int), ([] : (List Int)))).2)]))], []⟩ : St)) (by kernel_rfl) ⟨trivial, trivial, trivial, o1, trivial, trivial⟩ ?_
      refine awl_callk (p := []) (l := [toV1 (.pr (.int .i64) (.sl (.int .i64))) (sv.getD (v8).toNat ((0 : Int), ([] : (List Int))))]) false [.d (.pr (.int .i64) (.sl (.int .i64)))] [0, 1, 5, 7, 8, 16] [] (fun (ret16v : Bool) => ((ret16v = true → K v8) ∧ (ret16v = false → (InR (v8 + (1 : Int)) ∧ X1 (v8 + (1 : Int)))))) (fun ret16v => [toV1 .bool ret16v]) (fun ret16v => (⟨19, [(0, [], .v (.c (.p (.sl (.pr (.int .i64) (.sl (.int .i64)))) sv))), (1, [], .v (.c (.fn fv1 cv1))), (5, [], .v (.c (.p (.int .i64) v8))), (7, [], .v (.c (.p (.int .i64) (sv.length : Int)))), (8, [], .v (.c (.p (.int .i64) v8))), (16, [], .v (.c (.p .bool ret16v)))], []⟩ : St)) (by kernel_rfl) rfl (by kernel_rfl) rfl (by kernel_rfl) hF1.1 (by kernel_rfl) (fun ret16v => by kernel_rfl) (fun e => by cases e) (fun hg => hF1.2 (sv.getD (v8).toNat ((0 : Int), ([] : (List Int)))) _ h) (fun hg => noF hg) (fun ret16v h => ?_)
      have h : ((ret16v = true → K v8) ∧ (ret16v = false → (InR (v8 + (1 : Int)) ∧ X1 (v8 + (1 : Int))))) := h
      refine awl_nil ?_
      refine thenQ_n ?_
      refine aw_cond (b := ret16v) (by kernel_rfl) (fun hb => ?_) (fun hb => ?_)
      · have h := h.1 hb
        refine aw_seq ?_
        refine aw_region ?_
        refine awl_runp 2 [4] [] (ob := (True ∧ True ∧ True)) (st' := (⟨19, [(4, [], .v (.c (.p (.int .i64) v8)))], []⟩ : St)) (by kernel_rfl) ⟨trivial, trivial, trivial⟩ ?_
        refine awl_nil ?_
        refine thenQ_n ?_
        refine aw_ret ?_
        refine blockQ_r ?_
        refine thenQ_r ?_
        refine thenQ_r ?_
        refine blockQ_r ?_
        refine thenQ_r ?_
        exact retQ_r (σ := Int) (R := (fun y => [toV1 (.int .i64) y])) (ob := (True ∧ True)) v8 (by kernel_rfl) ⟨trivial, trivial⟩ h
      · have h := h.2 hb
        refine aw_skip ?_
        refine blockQ_n ?_
        refine thenQ_n ?_
        refine aw_region ?_
        obtain ⟨o1, h⟩ := h
        refine awl_runp 2 [0, 1, 7, 8] [] (ob := (InR (v8 + (1 : Int)) ∧ True ∧ True)) (st' := (⟨19, [(0, [], .v (.c (.p (.sl (.pr (.int .i64) (.sl (.int .i64)))) sv))), (1, [], .v (.c (.fn fv1 cv1))), (7, [], .v (.c (.p (.int .i64) (sv.length : Int)))), (8, [], .v (.c (.p (.int .i64) (v8 + (1 : Int)))))], []⟩ : St)) (by kernel_rfl) ⟨o1, trivial, trivial⟩ ?_
        refine awl_nil ?_
        exact thenQ_n ⟨(v8 + (1 : Int)), rfl, h⟩
    · have h := h.2 hb
      refine aw_conv [.prune [] []] (st' := (⟨19, [], []⟩ : St)) (by kernel_rfl) ?_
      refine aw_exit ?_
      refine thenQ_x ?_
      refine thenQ_x ?_
      refine blockQ_hit ?_
      exact rest1 () h

-- slices.ContainsFunc[[]coppicer/api.Rule,coppicer/api.Rule]
def VC77 (sv : (List (Int × (List Int)))) (F1 : (Int × (List Int)) → (Bool → Prop) → Prop) (K : Bool → Prop) : Prop :=
  VC55 sv F1 (fun (ret7v : Int) => K (decide ((0 : Int) ≤ ret7v)))

set_option maxHeartbeats 4000000 in
theorem link77 (sv : (List (Int × (List Int)))) (fv1 : FuncId) (cv1 : List Dat) (F1 : (Int × (List Int)) → (Bool → Prop) → Prop) (hF1 : FnIs Try.prog fv1 cv1 (fun (x : (Int × (List Int))) => [toV1 (.pr (.int .i64) (.sl (.int .i64))) x]) (fun (y : Bool) => [toV1 .bool y]) F1) (K : Bool → Prop) (h : VC77 sv F1 K) : ACalls Try.prog 77 [toV1 (.sl (.pr (.int .i64) (.sl (.int .i64)))) sv, .c (.fn fv1 cv1)] (fun res => ∃ y, res = (fun y => [toV1 .bool y]) y ∧ K y) := by
  refine acalls_of_aw [.bool] [.t 4] Try.func77 rfl rfl rfl ?_
  unfold VC77 at h
  refine aw_seq ?_
  refine aw_region ?_
  refine awl_runp 1 [0, 1] [] (ob := (True ∧ True)) (st' := (⟨9, [(0, [], .v (.c (.p (.sl (.pr (.int .i64) (.sl (.int .i64)))) sv))), (1, [], .v (.c (.fn fv1 cv1)))], []⟩ : St)) (by kernel_rfl) ⟨trivial, trivial⟩ ?_
  refine awl_nil ?_
  refine thenQ_n ?_
  refine aw_seq ?_
  refine aw_region ?_
  refine awl_runp 2 [5, 6] [] (ob := (True ∧ True ∧ True)) (st' := (⟨9, [(5, [], .v (.c (.p (.sl (.pr (.int .i64) (.sl (.int .i64)))) sv))), (6, [], .v (.c (.fn fv1 cv1)))], []⟩ : St)) (by kernel_rfl) ⟨trivial, trivial, trivial⟩ ?_
  refine awl_callk (p := []) (l := [toV1 (.sl (.pr (.int .i64) (.sl (.int .i64)))) sv, .c (.fn fv1 cv1)]) (cl := []) false [.d (.sl (.pr (.int .i64) (.sl (.int .i64)))), .fn] [7] [] (fun (ret7v : Int) => K (decide ((0 : Int) ≤ ret7v))) (fun ret7v => [toV1 (.int .i64) ret7v]) (fun ret7v => (⟨9, [(7, [], .v (.c (.p (.int .i64) ret7v)))], []⟩ : St)) (by kernel_rfl) rfl (by kernel_rfl) rfl (by kernel_rfl) Try.call55 (by kernel_rfl) (fun ret7v => by kernel_rfl) (fun e => by cases e) (fun hg => link55 sv fv1 cv1 F1 hF1 _ h) (fun hg => noF hg) (fun ret7v h => ?_)
  have h : K (decide ((0 : Int) ≤ ret7v)) := h
  refine awl_runp 2 [4] [] (ob := (True ∧ True ∧ True)) (st' := (⟨9, [(4, [], .v (.c (.p .bool (decide ((0 : Int) ≤ ret7v)))))], []⟩ : St)) (by kernel_rfl) ⟨trivial, trivial, trivial⟩ ?_
  refine awl_nil ?_
  refine thenQ_n ?_
  refine aw_ret ?_
  exact retQ_r (σ := Bool) (R := (fun y => [toV1 .bool y])) (ob := (True ∧ True)) (decide ((0 : Int) ≤ ret7v)) (by kernel_rfl) ⟨trivial, trivial⟩ h

-- coppicer/grammar.Check$2
def VC80 (rv : (Int × (List Int))) (K : Bool → Prop) : Prop :=
  K (decide ((4 : Int) < (rv.2.length : Int)))

set_option maxHeartbeats 4000000 in
theorem link80 (rv : (Int × (List Int))) (K : Bool → Prop) (h : VC80 rv K) : ACalls Try.prog 80 [toV1 (.pr (.int .i64) (.sl (.int .i64))) rv] (fun res => ∃ y, res = (fun y => [toV1 .bool y]) y ∧ K y) := by
  refine acalls_of_aw [.bool] [.t 2] Try.func80 rfl rfl rfl ?_
  unfold VC80 at h
  refine aw_seq ?_
  refine aw_region ?_
  refine awl_runp 2 [1] [1] (ob := (True ∧ True ∧ True)) (st' := (⟨7, [(1, [], .v (.c (.ptr 1 0)))], [(1, [], .box [.p (.int .i64) rv.1, .p (.sl (.int .i64)) rv.2])]⟩ : St)) (by kernel_rfl) ⟨trivial, trivial, trivial⟩ ?_
  refine awl_nil ?_
  refine thenQ_n ?_
  refine aw_seq ?_
  refine aw_region ?_
  refine awl_runp 5 [2] [] (ob := (True ∧ True ∧ True ∧ True ∧ True ∧ True)) (st' := (⟨7, [(2, [], .v (.c (.p .bool (decide ((4 : Int) < (rv.2.length : Int))))))], []⟩ : St)) (by kernel_rfl) ⟨trivial, trivial, trivial, trivial, trivial, trivial⟩ ?_
  refine awl_nil ?_
  refine thenQ_n ?_
  refine aw_ret ?_
  exact retQ_r (σ := Bool) (R := (fun y => [toV1 .bool y])) (ob := (True ∧ True)) (decide ((4 : Int) < (rv.2.length : Int))) (by kernel_rfl) ⟨trivial, trivial⟩ h

-- coppicer/grammar.IsSigns$1
def VC107 (sv : Int) (a1 : (Int × (Int × (Int × (List (Int × (List Int))))))) (K : Bool → Prop) : Prop :=
  (((decide (sv < (0 : Int))) = false → InR (a1.1 + a1.2.1)) ∧ K ((decide (sv < (0 : Int))) || (decide ((a1.1 + a1.2.1) ≤ sv))))

set_option maxHeartbeats 4000000 in
theorem link107 (sv : Int) (a1 : (Int × (Int × (Int × (List (Int × (List Int))))))) (K : Bool → Prop) (h : VC107 sv a1 K) : ACalls Try.prog 107 [toV1 (.int .i64) sv, .c (.ad (.pr (.int .i64) (.pr (.int .i64) (.pr (.int .i64) (.sl (.pr (.int .i64) (.sl (.int .i64))))))) a1)] (fun res => ∃ y, res = (fun y => [toV1 .bool y]) y ∧ K y) := by
  refine acalls_of_aw [.bool] [.t 3] Try.func107 rfl rfl rfl ?_
  unfold VC107 at h
  refine aw_seq ?_
  refine aw_region ?_
  refine awl_runp 1 [0, 1] [] (ob := (True ∧ True)) (st' := (⟨15, [(0, [], .v (.c (.p (.int .i64) sv))), (1, [], .v (.c (.ad (.pr (.int .i64) (.pr (.int .i64) (.pr (.int .i64) (.sl (.pr (.int .i64) (.sl (.int .i64))))))) a1)))], []⟩ : St)) (by kernel_rfl) ⟨trivial, trivial⟩ ?_
  refine awl_nil ?_
  refine thenQ_n ?_
  refine aw_seq ?_
  refine aw_region ?_
  obtain ⟨o1, h⟩ := h
  refine awl_runp 12 [3] [] (ob := (True ∧ True ∧ True ∧ ((decide (sv < (0 : Int))) = false → True) ∧ ((decide (sv < (0 : Int))) = false → True) ∧ ((decide (sv < (0 : Int))) = false → True) ∧ ((decide (sv < (0 : Int))) = false → True) ∧ ((decide (sv < (0 : Int))) = false → True) ∧ ((decide (sv < (0 : Int))) = false → InR (a1.1 + a1.2.1)) ∧ ((decide (sv < (0 : Int))) = false → True) ∧ True ∧ True ∧ True)) (st' := (⟨15, [(3, [], .v (.c (.p .bool ((decide (sv < (0 : Int))) || (decide ((a1.1 + a1.2.1) ≤ sv))))))], []⟩ : St)) (by kernel_rfl) ⟨trivial, trivial, trivial, (fun _ => trivial), (fun _ => trivial), (fun _ => trivial), (fun _ => trivial), (fun _ => trivial), o1, (fun _ => trivial), trivial, trivial, trivial⟩ ?_
  refine awl_nil ?_
  refine thenQ_n ?_
  refine aw_ret ?_
  exact retQ_r (σ := Bool) (R := (fun y => [toV1 .bool y])) (ob := (True ∧ True)) ((decide (sv < (0 : Int))) || (decide ((a1.1 + a1.2.1) ≤ sv))) (by kernel_rfl) ⟨trivial, trivial⟩ h

-- slices.IndexFunc[[]int,int]
def VC88_k1 (K : Int → Prop) : Prop :=
  K (-1 : Int)

def VC88_l1 (sv : (List Int)) (F1 : Int → (Bool → Prop) → Prop) (K : Int → Prop) (v8 : Int) (X1 : Int → Prop) : Prop :=
  (((decide (v8 < (sv.length : Int))) = true → (inIdx v8 sv.length ∧ F1 (sv.getD (v8).toNat (0 : Int)) (fun (ret16v : Bool) => ((ret16v = true → K v8) ∧ (ret16v = false → (InR (v8 + (1 : Int)) ∧ X1 (v8 + (1 : Int)))))))) ∧ ((decide (v8 < (sv.length : Int))) = false → VC88_k1 K))

def VC88 (sv : (List Int)) (F1 : Int → (Bool → Prop) → Prop) (K : Int → Prop) : Prop :=
  Loop (σ := Int) (fun s X => VC88_l1 sv F1 K s X) (0 : Int)

set_option maxHeartbeats 4000000 in
theorem link88 (sv : (List Int)) (fv1 : FuncId) (cv1 : List Dat) (F1 : Int → (Bool → Prop) → Prop) (hF1 : FnIs Try.prog fv1 cv1 (fun (x : Int) => [toV1 (.int .i64) x]) (fun (y : Bool) => [toV1 .bool y]) F1) (K : Int → Prop) (h : VC88 sv F1 K) : ACalls Try.prog 88 [toV1 (.sl (.int .i64)) sv, .c (.fn fv1 cv1)] (fun res => ∃ y, res = (fun y => [toV1 (.int .i64) y]) y ∧ K y) := by
  refine acalls_of_aw [(.int .i64)] [.t 4] Try.func88 rfl rfl rfl ?_
  unfold VC88 at h
  refine aw_seq ?_
  refine aw_region ?_
  refine awl_runp 1 [0, 1] [] (ob := (True ∧ True)) (st' := (⟨19, [(0, [], .v (.c (.p (.sl (.int .i64)) sv))), (1, [], .v (.c (.fn fv1 cv1)))], []⟩ : St)) (by kernel_rfl) ⟨trivial, trivial⟩ ?_
  refine awl_nil ?_
  refine thenQ_n ?_
  refine aw_seq ?_
  refine aw_seq ?_
  refine aw_region ?_
  refine awl_runp 3 [0, 1, 7, 8] [] (ob := (True ∧ True ∧ True ∧ True)) (st' := (⟨19, [(0, [], .v (.c (.p (.sl (.int .i64)) sv))), (1, [], .v (.c (.fn fv1 cv1))), (7, [], .v (.c (.p (.int .i64) (sv.length : Int)))), (8, [], .v (.c (.p (.int .i64) (0 : Int))))], []⟩ : St)) (by kernel_rfl) ⟨trivial, trivial, trivial, trivial⟩ ?_
  refine awl_nil ?_
  refine thenQ_n ?_
  refine withJoin (σ := Unit) (fun s => (⟨19, [], []⟩ : St)) (fun s => VC88_k1 K) (fun s h => ?_) (fun rest1 => ?_)
  · have h : VC88_k1 K := h
    unfold VC88_k1 at h
    refine thenQ_n ?_
    refine aw_seq ?_
    refine aw_region ?_
    refine awl_runp 1 [4] [] (ob := (True ∧ True)) (st' := (⟨19, [(4, [], .v (.c (.p (.int .i64) (-1 : Int))))], []⟩ : St)) (by kernel_rfl) ⟨trivial, trivial⟩ ?_
    refine awl_nil ?_
    refine thenQ_n ?_
    refine aw_ret ?_
    exact retQ_r (σ := Int) (R := (fun y => [toV1 (.int .i64) y])) (ob := (True ∧ True)) (-1 : Int) (by kernel_rfl) ⟨trivial, trivial⟩ h
  · refine aw_block ?_
    refine aw_loop (σ := Int) (fun s => (⟨19, [(0, [], .v (.c (.p (.sl (.int .i64)) sv))), (1, [], .v (.c (.fn fv1 cv1))), (7, [], .v (.c (.p (.int .i64) (sv.length : Int)))), (8, [], .v (.c (.p (.int .i64) s)))], []⟩ : St)) (fun s X => VC88_l1 sv F1 K s X) (s0 := (0 : Int)) (fun v8 X1 h => ?_) h
    have h : VC88_l1 sv F1 K v8 X1 := h
    unfold VC88_l1 at h
    refine aw_seq ?_
    refine aw_region ?_
    refine awl_runp 1 [0, 1, 7, 8, 9] [] (ob := (True ∧ True)) (st' := (⟨19, [(0, [], .v (.c (.p (.sl (.int .i64)) sv))), (1, [], .v (.c (.fn fv1 cv1))), (7, [], .v (.c (.p (.int .i64) (sv.length : Int)))), (8, [], .v (.c (.p (.int .i64) v8))), (9, [], .v (.c (.p .bool (decide (v8 < (sv.length : Int))))))], []⟩ : St)) (by kernel_rfl) ⟨trivial, trivial⟩ ?_
    refine awl_nil ?_
    refine thenQ_n ?_
    refine aw_seq ?_
    refine aw_cond (b := (decide (v8 < (sv.length : Int)))) (by kernel_rfl) (fun hb => ?_) (fun hb => ?_)
    · have h := h.1 hb
      refine aw_skip ?_
      refine thenQ_n ?_
      refine aw_seq ?_
      refine aw_block ?_
      refine aw_seq ?_
      refine aw_region ?_
      refine awl_runp 2 [0, 1, 5, 7, 8] [] (ob := (True ∧ True ∧ True)) (st' := (⟨19, [(0, [], .v (.c (.p (.sl (.int .i64)) sv))), (1, [], .v (.c (.fn fv1 cv1))), (5, [], .v (.c (.p (.int .i64) v8))), (7, [], .v (.c (.p (.int .i64) (sv.length : Int)))), (8, [], .v (.c (.p (.int .i64) v8)))], []⟩ : St)) (by kernel_rfl) ⟨trivial, trivial, trivial⟩ ?_
      refine awl_nil ?_
      refine thenQ_n ?_
      refine aw_seq ?_
      refine aw_region ?_
      obtain ⟨o1, h⟩ := h
      refine awl_runp 5 [0, 1, 5, 7, 8, 11, 15] [] (ob := (True ∧ True ∧ True ∧ inIdx v8 sv.length ∧ True ∧ True)) (st' := (⟨19, [(0, [], .v (.c (.p (.sl (.int .i64)) sv))), (1, [], .v (.c (.fn fv1 cv1))), (5, [], .v (.c (.p (.int .i64) v8))), (7, [], .v (.c (.p (.int .i64) (sv.length : Int)))), (8, [], .v (.c (.p (.int .i64) v8))), (11, [], .v (.c (.fn fv1 cv1))), (15, [], .v (.c (.p (.int .i64) (sv.getD (v8).toNat (0 : Int)))))], []⟩ : St)) (by kernel_rfl) ⟨trivial, trivial, trivial, o1, trivial, trivial⟩ ?_
      refine awl_callk (p := []) (l := [toV1 (.int .i64) (sv.getD (v8).toNat (0 : Int))]) false [.d (.int .i64)] [0, 1, 5, 7, 8, 16] [] (fun (ret16v : Bool) => ((ret16v = true → K v8) ∧ (ret16v = false → (InR (v8 + (1 : Int)) ∧ X1 (v8 + (1 : Int)))))) (fun ret16v => [toV1 .bool ret16v]) (fun ret16v => (⟨19, [(0, [], .v (.c (.p (.sl (.int .i64)) sv))), (1, [], .v (.c (.fn fv1 cv1))), (5, [], .v (.c (.p (.int .i64) v8))), (7, [], .v (.c (.p (.int .i64) (sv.length : Int)))), (8, [], .v (.c (.p (.int .i64) v8))), (16, [], .v (.c (.p .bool ret16v)))], []⟩ : St)) (by kernel_rfl) rfl (by kernel_rfl) rfl (by kernel_rfl) hF1.1 (by kernel_rfl) (fun ret16v => by kernel_rfl) (fun e => by cases e) (fun hg => hF1.2 (sv.getD (v8).toNat (0 : Int)) _ h) (fun hg => noF hg) (fun ret16v h => ?_)
      have h : ((ret16v = true → K v8) ∧ (ret16v = false → (InR (v8 + (1 : Int)) ∧ X1 (v8 + (1 : Int))))) := h
      refine awl_nil ?_
      refine thenQ_n ?_
      refine aw_cond (b := ret16v) (by kernel_rfl) (fun hb => ?_) (fun hb => ?_)
      · have h := h.1 hb
        refine aw_seq ?_
        refine aw_region ?_
        refine awl_runp 2 [4] [] (ob := (True ∧ True ∧ True)) (st' := (⟨19, [(4, [], .v (.c (.p (.int .i64) v8)))], []⟩ : St)) (by kernel_rfl) ⟨trivial, trivial, trivial⟩ ?_
        refine awl_nil ?_
        refine thenQ_n ?_
        refine aw_ret ?_
        refine blockQ_r ?_
        refine thenQ_r ?_
        refine thenQ_r ?_
        refine blockQ_r ?_
        refine thenQ_r ?_
        exact retQ_r (σ := Int) (R := (fun y => [toV1 (.int .i64) y])) (ob := (True ∧ True)) v8 (by kernel_rfl) ⟨trivial, trivial⟩ h
      · have h := h.2 hb
        refine aw_skip ?_
        refine blockQ_n ?_
        refine thenQ_n ?_
        refine aw_region ?_
        obtain ⟨o1, h⟩ := h
        refine awl_runp 2 [0, 1, 7, 8] [] (ob := (InR (v8 + (1 : Int)) ∧ True ∧ True)) (st' := (⟨19, [(0, [], .v (.c (.p (.sl (.int .i64)) sv))), (1, [], .v (.c (.fn fv1 cv1))), (7, [], .v (.c (.p (.int .i64) (sv.length : Int)))), (8, [], .v (.c (.p (.int .i64) (v8 + (1 : Int)))))], []⟩ : St)) (by kernel_rfl) ⟨o1, trivial, trivial⟩ ?_
        refine awl_nil ?_
        exact thenQ_n ⟨(v8 + (1 : Int)), rfl, h⟩
    · have h := h.2 hb
      refine aw_conv [.prune [] []] (st' := (⟨19, [], []⟩ : St)) (by kernel_rfl) ?_
      refine aw_exit ?_
      refine thenQ_x ?_
      refine thenQ_x ?_
      refine blockQ_hit ?_
      exact rest1 () h

-- slices.ContainsFunc[[]int,int]
def VC59 (sv : (List Int)) (F1 : Int → (Bool → Prop) → Prop) (K : Bool → Prop) : Prop :=
  VC88 sv F1 (fun (ret7v : Int) => K (decide ((0 : Int) ≤ ret7v)))

set_option maxHeartbeats 4000000 in
theorem link59 (sv : (List Int)) (fv1 : FuncId) (cv1 : List Dat) (F1 : Int → (Bool → Prop) → Prop) (hF1 : FnIs Try.prog fv1 cv1 (fun (x : Int) => [toV1 (.int .i64) x]) (fun (y : Bool) => [toV1 .bool y]) F1) (K : Bool → Prop) (h : VC59 sv F1 K) : ACalls Try.prog 59 [toV1 (.sl (.int .i64)) sv, .c (.fn fv1 cv1)] (fun res => ∃ y, res = (fun y => [toV1 .bool y]) y ∧ K y) := by
  refine acalls_of_aw [.bool] [.t 4] Try.func59 rfl rfl rfl ?_
  unfold VC59 at h
  refine aw_seq ?_
  refine aw_region ?_
  refine awl_runp 1 [0, 1] [] (ob := (True ∧ True)) (st' := (⟨9, [(0, [], .v (.c (.p (.sl (.int .i64)) sv))), (1, [], .v (.c (.fn fv1 cv1)))], []⟩ : St)) (by kernel_rfl) ⟨trivial, trivial⟩ ?_
  refine awl_nil ?_
  refine thenQ_n ?_
  refine aw_seq ?_
  refine aw_region ?_
  refine awl_runp 2 [5, 6] [] (ob := (True ∧ True ∧ True)) (st' := (⟨9, [(5, [], .v (.c (.p (.sl (.int .i64)) sv))), (6, [], .v (.c (.fn fv1 cv1)))], []⟩ : St)) (by kernel_rfl) ⟨trivial, trivial, trivial⟩ ?_
  refine awl_callk (p := []) (l := [toV1 (.sl (.int .i64)) sv, .c (.fn fv1 cv1)]) (cl := []) false [.d (.sl (.int .i64)), .fn] [7] [] (fun (ret7v : Int) => K (decide ((0 : Int) ≤ ret7v))) (fun ret7v => [toV1 (.int .i64) ret7v]) (fun ret7v => (⟨9, [(7, [], .v (.c (.p (.int .i64) ret7v)))], []⟩ : St)) (by kernel_rfl) rfl (by kernel_rfl) rfl (by kernel_rfl) Try.call88 (by kernel_rfl) (fun ret7v => by kernel_rfl) (fun e => by cases e) (fun hg => link88 sv fv1 cv1 F1 hF1 _ h) (fun hg => noF hg) (fun ret7v h => ?_)
  have h : K (decide ((0 : Int) ≤ ret7v)) := h
  refine awl_runp 2 [4] [] (ob := (True ∧ True ∧ True)) (st' := (⟨9, [(4, [], .v (.c (.p .bool (decide ((0 : Int) ≤ ret7v)))))], []⟩ : St)) (by kernel_rfl) ⟨trivial, trivial, trivial⟩ ?_
  refine awl_nil ?_
  refine thenQ_n ?_
  refine aw_ret ?_
  exact retQ_r (σ := Bool) (R := (fun y => [toV1 .bool y])) (ob := (True ∧ True)) (decide ((0 : Int) ≤ ret7v)) (by kernel_rfl) ⟨trivial, trivial⟩ h

-- coppicer/grammar.IsSigns
def VC81 (g : (Int × (Int × (Int × (List (Int × (List Int))))))) (l : (List Int)) (K : Bool → Prop) : Prop :=
  VC59 l (fun (x : Int) (K : Bool → Prop) => VC107 x g K) (fun (ret7v : Bool) => K (!ret7v))

set_option maxHeartbeats 4000000 in
theorem link81 (g : (Int × (Int × (Int × (List (Int × (List Int))))))) (l : (List Int)) (K : Bool → Prop) (h : VC81 g l K) : ACalls Try.prog 81 [toV1 (.pr (.int .i64) (.pr (.int .i64) (.pr (.int .i64) (.sl (.pr (.int .i64) (.sl (.int .i64))))))) g, toV1 (.sl (.int .i64)) l] (fun res => ∃ y, res = (fun y => [toV1 .bool y]) y ∧ K y) := by
  refine acalls_of_aw [.bool] [.t 4] Try.func81 rfl rfl rfl ?_
  unfold VC81 at h
  refine aw_seq ?_
  refine aw_region ?_
  refine awl_runp 2 [1, 2] [2] (ob := (True ∧ True ∧ True)) (st' := (⟨9, [(1, [], .v (.c (.p (.sl (.int .i64)) l))), (2, [], .v (.c (.ptr 2 0)))], [(2, [], .box [.p (.int .i64) g.1, .p (.int .i64) g.2.1, .p (.int .i64) g.2.2.1, .p (.sl (.pr (.int .i64) (.sl (.int .i64)))) g.2.2.2])]⟩ : St)) (by kernel_rfl) ⟨trivial, trivial, trivial⟩ ?_
  refine awl_nil ?_
  refine thenQ_n ?_
  refine aw_seq ?_
  refine aw_region ?_
  refine awl_runp 1 [2, 5] [2] (ob := (True ∧ True)) (st' := (⟨9, [(2, [], .v (.c (.ptr 2 0))), (5, [], .v (.c (.p (.sl (.int .i64)) l)))], [(2, [], .box [.p (.int .i64) g.1, .p (.int .i64) g.2.1, .p (.int .i64) g.2.2.1, .p (.sl (.pr (.int .i64) (.sl (.int .i64)))) g.2.2.2])]⟩ : St)) (by kernel_rfl) ⟨trivial, trivial⟩ ?_
  refine awl_conv [.freezeB 2 (.pr (.int .i64) (.pr (.int .i64) (.pr (.int .i64) (.sl (.pr (.int .i64) (.sl (.int .i64)))))))] (st' := (⟨9, [(2, [], .v (.c (.ad (.pr (.int .i64) (.pr (.int .i64) (.pr (.int .i64) (.sl (.pr (.int .i64) (.sl (.int .i64))))))) g))), (5, [], .v (.c (.p (.sl (.int .i64)) l)))], []⟩ : St)) (by kernel_rfl) ?_
  refine awl_runp 1 [5, 6] [] (ob := (True ∧ True)) (st' := (⟨9, [(5, [], .v (.c (.p (.sl (.int .i64)) l))), (6, [], .v (.c (.fn 107 [(⟨(.pr (.int .i64) (.pr (.int .i64) (.pr (.int .i64) (.sl (.pr (.int .i64) (.sl (.int .i64))))))), g⟩ : Dat)])))], []⟩ : St)) (by kernel_rfl) ⟨trivial, trivial⟩ ?_
  refine awl_callk (p := []) (l := [toV1 (.sl (.int .i64)) l, .c (.fn 107 [(⟨(.pr (.int .i64) (.pr (.int .i64) (.pr (.int .i64) (.sl (.pr (.int .i64) (.sl (.int .i64))))))), g⟩ : Dat)])]) (cl := []) false [.d (.sl (.int .i64)), .fn] [7] [] (fun (ret7v : Bool) => K (!ret7v)) (fun ret7v => [toV1 .bool ret7v]) (fun ret7v => (⟨9, [(7, [], .v (.c (.p .bool ret7v)))], []⟩ : St)) (by kernel_rfl) rfl (by kernel_rfl) rfl (by kernel_rfl) Try.call59 (by kernel_rfl) (fun ret7v => by kernel_rfl) (fun e => by cases e) (fun hg => link59 l 107 [(⟨(.pr (.int .i64) (.pr (.int .i64) (.pr (.int .i64) (.sl (.pr (.int .i64) (.sl (.int .i64))))))), g⟩ : Dat)] (fun (x : Int) (K : Bool → Prop) => VC107 x g K) ⟨Try.call107, fun x K h => link107 x g K h⟩ _ h) (fun hg => noF hg) (fun ret7v h => ?_)
  have h : K (!ret7v) := h
  refine awl_runp 2 [4] [] (ob := (True ∧ True ∧ True)) (st' := (⟨9, [(4, [], .v (.c (.p .bool (!ret7v))))], []⟩ : St)) (by kernel_rfl) ⟨trivial, trivial, trivial⟩ ?_
  refine awl_nil ?_
  refine thenQ_n ?_
  refine aw_ret ?_
  exact retQ_r (σ := Bool) (R := (fun y => [toV1 .bool y])) (ob := (True ∧ True)) (!ret7v) (by kernel_rfl) ⟨trivial, trivial⟩ h

-- coppicer/grammar.Check
def VC51_k1 (K : Int → Prop) : Prop :=
  K (0 : Int)

def VC51_l1 (g : (Int × (Int × (Int × (List (Int × (List Int))))))) (K : Int → Prop) (v38 : Int) (X1 : Int → Prop) : Prop :=
  (((decide (v38 < (g.2.2.2.length : Int))) = true → (inIdx v38 g.2.2.2.length ∧ (InR (g.2.1 - (1 : Int)) ∧ VC79 ((g.2.2.2.getD (v38).toNat ((0 : Int), ([] : (List Int)))).1) (0 : Int) (g.2.1 - (1 : Int)) (fun (ret48v : Bool) => gcall (α := Bool) (!(!ret48v)) (VC81 g ((g.2.2.2.getD (v38).toNat ((0 : Int), ([] : (List Int)))).2)) false (fun (ret54v : Bool) => ((((!ret48v) || (!ret54v)) = true → K (2 : Int)) ∧ (((!ret48v) || (!ret54v)) = false → (InR (v38 + (1 : Int)) ∧ X1 (v38 + (1 : Int)))))))))) ∧ ((decide (v38 < (g.2.2.2.length : Int))) = false → VC51_k1 K))

def VC51 (g : (Int × (Int × (Int × (List (Int × (List Int))))))) (K : Int → Prop) : Prop :=
  VC79 g.1 (1 : Int) (3 : Int) (fun (ret9v : Bool) => gcall (α := Bool) (!(!ret9v)) (VC79 g.2.1 (1 : Int) (5 : Int)) false (fun (ret15v : Bool) => (((((!ret9v) || (!ret15v)) || (decide ((10 : Int) < (g.2.2.2.length : Int)))) = true → K (1 : Int)) ∧ ((((!ret9v) || (!ret15v)) || (decide ((10 : Int) < (g.2.2.2.length : Int)))) = false → VC77 g.2.2.2 (fun (x : (Int × (List Int))) (K : Bool → Prop) => VC80 x K) (fun (ret26v : Bool) => ((ret26v = true → K (1 : Int)) ∧ (ret26v = false → (InR (g.2.1 - (1 : Int)) ∧ VC79 g.2.2.1 (0 : Int) (g.2.1 - (1 : Int)) (fun (ret33v : Bool) => (((!ret33v) = true → K (2 : Int)) ∧ ((!ret33v) = false → Loop (σ := Int) (fun s X => VC51_l1 g K s X) (0 : Int))))))))))))

set_option maxHeartbeats 4000000 in
theorem link51 (g : (Int × (Int × (Int × (List (Int × (List Int))))))) (K : Int → Prop) (h : VC51 g K) : ACalls Try.prog 51 [toV1 (.pr (.int .i64) (.pr (.int .i64) (.pr (.int .i64) (.sl (.pr (.int .i64) (.sl (.int .i64))))))) g] (fun res => ∃ y, res = (fun y => [toV1 (.int .i64) y]) y ∧ K y) := by
  refine acalls_of_aw [(.int .i64)] [.t 2] Try.func51 rfl rfl rfl ?_
  unfold VC51 at h
  refine aw_seq ?_
  refine aw_region ?_
  refine awl_runp 2 [1] [1] (ob := (True ∧ True ∧ True)) (st' := (⟨58, [(1, [], .v (.c (.ptr 1 0)))], [(1, [], .box [.p (.int .i64) g.1, .p (.int .i64) g.2.1, .p (.int .i64) g.2.2.1, .p (.sl (.pr (.int .i64) (.sl (.int .i64)))) g.2.2.2])]⟩ : St)) (by kernel_rfl) ⟨trivial, trivial, trivial⟩ ?_
  refine awl_nil ?_
  refine thenQ_n ?_
  refine aw_seq ?_
  refine aw_region ?_
  refine awl_runp 1 [1, 3] [1] (ob := (True ∧ True)) (st' := (⟨58, [(1, [], .v (.c (.ptr 1 0))), (3, [], .v (.c (.fn 79 [])))], [(1, [], .box [.p (.int .i64) g.1, .p (.int .i64) g.2.1, .p (.int .i64) g.2.2.1, .p (.sl (.pr (.int .i64) (.sl (.int .i64)))) g.2.2.2])]⟩ : St)) (by kernel_rfl) ⟨trivial, trivial⟩ ?_
  refine awl_nil ?_
  refine thenQ_n ?_
  refine aw_seq ?_
  refine aw_seq ?_
  refine aw_region ?_
  refine awl_runp 3 [1, 3, 6, 8] [1] (ob := (True ∧ True ∧ True ∧ True)) (st' := (⟨58, [(1, [], .v (.c (.ptr 1 0))), (3, [], .v (.c (.fn 79 []))), (6, [], .v (.c (.fn 79 []))), (8, [], .v (.c (.p (.int .i64) g.1)))], [(1, [], .box [.p (.int .i64) g.1, .p (.int .i64) g.2.1, .p (.int .i64) g.2.2.1, .p (.sl (.pr (.int .i64) (.sl (.int .i64)))) g.2.2.2])]⟩ : St)) (by kernel_rfl) ⟨trivial, trivial, trivial, trivial⟩ ?_
  refine awl_callk (p := []) (l := [toV1 (.int .i64) g.1, toV1 (.int .i64) (1 : Int), toV1 (.int .i64) (3 : Int)]) (cl := []) false [.d (.int .i64), .d (.int .i64), .d (.int .i64)] [1, 3, 9] [1] (fun (ret9v : Bool) => gcall (α := Bool) (!(!ret9v)) (VC79 g.2.1 (1 : Int) (5 : Int)) false (fun (ret15v : Bool) => (((((!ret9v) || (!ret15v)) || (decide ((10 : Int) < (g.2.2.2.length : Int)))) = true → K (1 : Int)) ∧ ((((!ret9v) || (!ret15v)) || (decide ((10 : Int) < (g.2.2.2.length : Int)))) = false → VC77 g.2.2.2 (fun (x : (Int × (List Int))) (K : Bool → Prop) => VC80 x K) (fun (ret26v : Bool) => ((ret26v = true → K (1 : Int)) ∧ (ret26v = false → (InR (g.2.1 - (1 : Int)) ∧ VC79 g.2.2.1 (0 : Int) (g.2.1 - (1 : Int)) (fun (ret33v : Bool) => (((!ret33v) = true → K (2 : Int)) ∧ ((!ret33v) = false → Loop (σ := Int) (fun s X => VC51_l1 g K s X) (0 : Int)))))))))))) (fun ret9v => [toV1 .bool ret9v]) (fun ret9v => (⟨58, [(1, [], .v (.c (.ptr 1 0))), (3, [], .v (.c (.fn 79 []))), (9, [], .v (.c (.p .bool ret9v)))], [(1, [], .box [.p (.int .i64) g.1, .p (.int .i64) g.2.1, .p (.int .i64) g.2.2.1, .p (.sl (.pr (.int .i64) (.sl (.int .i64)))) g.2.2.2])]⟩ : St)) (by kernel_rfl) rfl (by kernel_rfl) rfl (by kernel_rfl) Try.call79 (by kernel_rfl) (fun ret9v => by kernel_rfl) (fun e => by cases e) (fun hg => link79 g.1 (1 : Int) (3 : Int) _ h) (fun hg => noF hg) (fun ret9v h => ?_)
  have h : gcall (α := Bool) (!(!ret9v)) (VC79 g.2.1 (1 : Int) (5 : Int)) false (fun (ret15v : Bool) => (((((!ret9v) || (!ret15v)) || (decide ((10 : Int) < (g.2.2.2.length : Int)))) = true → K (1 : Int)) ∧ ((((!ret9v) || (!ret15v)) || (decide ((10 : Int) < (g.2.2.2.length : Int)))) = false → VC77 g.2.2.2 (fun (x : (Int × (List Int))) (K : Bool → Prop) => VC80 x K) (fun (ret26v : Bool) => ((ret26v = true → K (1 : Int)) ∧ (ret26v = false → (InR (g.2.1 - (1 : Int)) ∧ VC79 g.2.2.1 (0 : Int) (g.2.1 - (1 : Int)) (fun (ret33v : Bool) => (((!ret33v) = true → K (2 : Int)) ∧ ((!ret33v) = false → Loop (σ := Int) (fun s X => VC51_l1 g K s X) (0 : Int))))))))))) := h
  refine awl_runp 5 [1, 3, 11, 12, 14] [1] (ob := (True ∧ True ∧ ((!ret9v) = false → True) ∧ ((!ret9v) = false → True) ∧ ((!ret9v) = false → True) ∧ True)) (st' := (⟨58, [(1, [], .v (.c (.ptr 1 0))), (3, [], .v (.c (.fn 79 []))), (11, [], .v (.c (.p .bool (!ret9v)))), (12, [(11, false)], .v (.c (.fn 79 []))), (14, [(11, false)], .v (.c (.p (.int .i64) g.2.1)))], [(1, [], .box [.p (.int .i64) g.1, .p (.int .i64) g.2.1, .p (.int .i64) g.2.2.1, .p (.sl (.pr (.int .i64) (.sl (.int .i64)))) g.2.2.2])]⟩ : St)) (by kernel_rfl) ⟨trivial, trivial, (fun _ => trivial), (fun _ => trivial), (fun _ => trivial), trivial⟩ ?_
  refine awl_callk (p := [(11, false)]) (l := [toV1 (.int .i64) g.2.1, toV1 (.int .i64) (1 : Int), toV1 (.int .i64) (5 : Int)]) (cl := []) false [.d (.int .i64), .d (.int .i64), .d (.int .i64)] [1, 3, 11, 15] [1] (fun (ret15v : Bool) => (((((!ret9v) || (!ret15v)) || (decide ((10 : Int) < (g.2.2.2.length : Int)))) = true → K (1 : Int)) ∧ ((((!ret9v) || (!ret15v)) || (decide ((10 : Int) < (g.2.2.2.length : Int)))) = false → VC77 g.2.2.2 (fun (x : (Int × (List Int))) (K : Bool → Prop) => VC80 x K) (fun (ret26v : Bool) => ((ret26v = true → K (1 : Int)) ∧ (ret26v = false → (InR (g.2.1 - (1 : Int)) ∧ VC79 g.2.2.1 (0 : Int) (g.2.1 - (1 : Int)) (fun (ret33v : Bool) => (((!ret33v) = true → K (2 : Int)) ∧ ((!ret33v) = false → Loop (σ := Int) (fun s X => VC51_l1 g K s X) (0 : Int))))))))))) (fun ret15v => [toV1 .bool ret15v]) (fun ret15v => (⟨58, [(1, [], .v (.c (.ptr 1 0))), (3, [], .v (.c (.fn 79 []))), (11, [], .v (.c (.p .bool (!ret9v)))), (15, [(11, false)], .v (.c (.p .bool ret15v)))], [(1, [], .box [.p (.int .i64) g.1, .p (.int .i64) g.2.1, .p (.int .i64) g.2.2.1, .p (.sl (.pr (.int .i64) (.sl (.int .i64)))) g.2.2.2])]⟩ : St)) (by kernel_rfl) rfl (by kernel_rfl) rfl (by kernel_rfl) Try.call79 (by kernel_rfl) (fun ret15v => by kernel_rfl) (fun e => by cases e) (fun hg => link79 g.2.1 (1 : Int) (5 : Int) _ (by have := gcall_T h (show (!(!ret9v)) = true from hg); exact this)) (fun hg => ⟨false, by have := gcall_F h (show (!(!ret9v)) = false from hg); exact this⟩) (fun ret15v h => ?_)
  have h : (((((!ret9v) || (!ret15v)) || (decide ((10 : Int) < (g.2.2.2.length : Int)))) = true → K (1 : Int)) ∧ ((((!ret9v) || (!ret15v)) || (decide ((10 : Int) < (g.2.2.2.length : Int)))) = false → VC77 g.2.2.2 (fun (x : (Int × (List Int))) (K : Bool → Prop) => VC80 x K) (fun (ret26v : Bool) => ((ret26v = true → K (1 : Int)) ∧ (ret26v = false → (InR (g.2.1 - (1 : Int)) ∧ VC79 g.2.2.1 (0 : Int) (g.2.1 - (1 : Int)) (fun (ret33v : Bool) => (((!ret33v) = true → K (2 : Int)) ∧ ((!ret33v) = false → Loop (σ := Int) (fun s X => VC51_l1 g K s X) (0 : Int)))))))))) := h
  refine awl_runp 8 [1, 3, 23] [1] (ob := (((!ret9v) = false → True) ∧ True ∧ True ∧ (((!ret9v) || (!ret15v)) = false → True) ∧ (((!ret9v) || (!ret15v)) = false → True) ∧ (((!ret9v) || (!ret15v)) = false → True) ∧ (((!ret9v) || (!ret15v)) = false → True) ∧ True ∧ True)) (st' := (⟨58, [(1, [], .v (.c (.ptr 1 0))), (3, [], .v (.c (.fn 79 []))), (23, [], .v (.c (.p .bool (((!ret9v) || (!ret15v)) || (decide ((10 : Int) < (g.2.2.2.length : Int)))))))], [(1, [], .box [.p (.int .i64) g.1, .p (.int .i64) g.2.1, .p (.int .i64) g.2.2.1, .p (.sl (.pr (.int .i64) (.sl (.int .i64)))) g.2.2.2])]⟩ : St)) (by kernel_rfl) ⟨(fun _ => trivial), trivial, trivial, (fun _ => trivial), (fun _ => trivial), (fun _ => trivial), (fun _ => trivial), trivial, trivial⟩ ?_
  refine awl_nil ?_
  refine thenQ_n ?_
  refine aw_cond (b := (((!ret9v) || (!ret15v)) || (decide ((10 : Int) < (g.2.2.2.length : Int))))) (by kernel_rfl) (fun hb => ?_) (fun hb => ?_)
  · have h := h.1 hb
    refine aw_seq ?_
    refine aw_region ?_
    refine awl_runp 1 [2] [] (ob := (True ∧ True)) (st' := (⟨58, [(2, [], .v (.c (.p (.int .i64) (1 : Int))))], []⟩ : St)) (by kernel_rfl) ⟨trivial, trivial⟩ ?_
    refine awl_nil ?_
    refine thenQ_n ?_
    refine aw_ret ?_
    refine thenQ_r ?_
    exact retQ_r (σ := Int) (R := (fun y => [toV1 (.int .i64) y])) (ob := (True ∧ True)) (1 : Int) (by kernel_rfl) ⟨trivial, trivial⟩ h
  · have h := h.2 hb
    refine aw_skip ?_
    refine thenQ_n ?_
    refine aw_seq ?_
    refine aw_seq ?_
    refine aw_region ?_
    refine awl_runp 2 [1, 3, 25] [1] (ob := (True ∧ True ∧ True)) (st' := (⟨58, [(1, [], .v (.c (.ptr 1 0))), (3, [], .v (.c (.fn 79 []))), (25, [], .v (.c (.p (.sl (.pr (.int .i64) (.sl (.int .i64)))) g.2.2.2)))], [(1, [], .box [.p (.int .i64) g.1, .p (.int .i64) g.2.1, .p (.int .i64) g.2.2.1, .p (.sl (.pr (.int .i64) (.sl (.int .i64)))) g.2.2.2])]⟩ : St)) (by kernel_rfl) ⟨trivial, trivial, trivial⟩ ?_
    refine awl_callk (p := []) (l := [toV1 (.sl (.pr (.int .i64) (.sl (.int .i64)))) g.2.2.2, .c (.fn 80 [])]) (cl := []) false [.d (.sl (.pr (.int .i64) (.sl (.int .i64)))), .fn] [1, 3, 26] [1] (fun (ret26v : Bool) => ((ret26v = true → K (1 : Int)) ∧ (ret26v = false → (InR (g.2.1 - (1 : Int)) ∧ VC79 g.2.2.1 (0 : Int) (g.2.1 - (1 : Int)) (fun (ret33v : Bool) => (((!ret33v) = true → K (2 : Int)) ∧ ((!ret33v) = false → Loop (σ := Int) (fun s X => VC51_l1 g K s X) (0 : Int)))))))) (fun ret26v => [toV1 .bool ret26v]) (fun ret26v => (⟨58, [(1, [], .v (.c (.ptr 1 0))), (3, [], .v (.c (.fn 79 []))), (26, [], .v (.c (.p .bool ret26v)))], [(1, [], .box [.p (.int .i64) g.1, .p (.int .i64) g.2.1, .p (.int .i64) g.2.2.1, .p (.sl (.pr (.int .i64) (.sl (.int .i64)))) g.2.2.2])]⟩ : St)) (by kernel_rfl) rfl (by kernel_rfl) rfl (by kernel_rfl) Try.call77 (by kernel_rfl) (fun ret26v => by kernel_rfl) (fun e => by cases e) (fun hg => link77 g.2.2.2 80 [] (fun (x : (Int × (List Int))) (K : Bool → Prop) => VC80 x K) ⟨Try.call80, fun x K h => link80 x K h⟩ _ h) (fun hg => noF hg) (fun ret26v h => ?_)
    have h : ((ret26v = true → K (1 : Int)) ∧ (ret26v = false → (InR (g.2.1 - (1 : Int)) ∧ VC79 g.2.2.1 (0 : Int) (g.2.1 - (1 : Int)) (fun (ret33v : Bool) => (((!ret33v) = true → K (2 : Int)) ∧ ((!ret33v) = false → Loop (σ := Int) (fun s X => VC51_l1 g K s X) (0 : Int))))))) := h
    refine awl_nil ?_
    refine thenQ_n ?_
    refine aw_cond (b := ret26v) (by kernel_rfl) (fun hb => ?_) (fun hb => ?_)
    · have h := h.1 hb
      refine aw_seq ?_
      refine aw_region ?_
      refine awl_runp 1 [2] [] (ob := (True ∧ True)) (st' := (⟨58, [(2, [], .v (.c (.p (.int .i64) (1 : Int))))], []⟩ : St)) (by kernel_rfl) ⟨trivial, trivial⟩ ?_
      refine awl_nil ?_
      refine thenQ_n ?_
      refine aw_ret ?_
      refine thenQ_r ?_
      exact retQ_r (σ := Int) (R := (fun y => [toV1 (.int .i64) y])) (ob := (True ∧ True)) (1 : Int) (by kernel_rfl) ⟨trivial, trivial⟩ h
    · have h := h.2 hb
      refine aw_skip ?_
      refine thenQ_n ?_
      refine aw_seq ?_
      refine aw_seq ?_
      refine aw_region ?_
      obtain ⟨o1, h⟩ := h
      refine awl_runp 6 [1, 3, 27, 29, 32] [1] (ob := (True ∧ True ∧ True ∧ True ∧ True ∧ InR (g.2.1 - (1 : Int)) ∧ True)) (st' := (⟨58, [(1, [], .v (.c (.ptr 1 0))), (3, [], .v (.c (.fn 79 []))), (27, [], .v (.c (.fn 79 []))), (29, [], .v (.c (.p (.int .i64) g.2.2.1))), (32, [], .v (.c (.p (.int .i64) (g.2.1 - (1 : Int)))))], [(1, [], .box [.p (.int .i64) g.1, .p (.int .i64) g.2.1, .p (.int .i64) g.2.2.1, .p (.sl (.pr (.int .i64) (.sl (.int .i64)))) g.2.2.2])]⟩ : St)) (by kernel_rfl) ⟨trivial, trivial, trivial, trivial, trivial, o1, trivial⟩ ?_
      refine awl_callk (p := []) (l := [toV1 (.int .i64) g.2.2.1, toV1 (.int .i64) (0 : Int), toV1 (.int .i64) (g.2.1 - (1 : Int))]) (cl := []) false [.d (.int .i64), .d (.int .i64), .d (.int .i64)] [1, 3, 33] [1] (fun (ret33v : Bool) => (((!ret33v) = true → K (2 : Int)) ∧ ((!ret33v) = false → Loop (σ := Int) (fun s X => VC51_l1 g K s X) (0 : Int)))) (fun ret33v => [toV1 .bool ret33v]) (fun ret33v => (⟨58, [(1, [], .v (.c (.ptr 1 0))), (3, [], .v (.c (.fn 79 []))), (33, [], .v (.c (.p .bool ret33v)))], [(1, [], .box [.p (.int .i64) g.1, .p (.int .i64) g.2.1, .p (.int .i64) g.2.2.1, .p (.sl (.pr (.int .i64) (.sl (.int .i64)))) g.2.2.2])]⟩ : St)) (by kernel_rfl) rfl (by kernel_rfl) rfl (by kernel_rfl) Try.call79 (by kernel_rfl) (fun ret33v => by kernel_rfl) (fun e => by cases e) (fun hg => link79 g.2.2.1 (0 : Int) (g.2.1 - (1 : Int)) _ h) (fun hg => noF hg) (fun ret33v h => ?_)
      have h : (((!ret33v) = true → K (2 : Int)) ∧ ((!ret33v) = false → Loop (σ := Int) (fun s X => VC51_l1 g K s X) (0 : Int))) := h
      refine awl_runp 1 [1, 3, 34] [1] (ob := (True ∧ True)) (st' := (⟨58, [(1, [], .v (.c (.ptr 1 0))), (3, [], .v (.c (.fn 79 []))), (34, [], .v (.c (.p .bool (!ret33v))))], [(1, [], .box [.p (.int .i64) g.1, .p (.int .i64) g.2.1, .p (.int .i64) g.2.2.1, .p (.sl (.pr (.int .i64) (.sl (.int .i64)))) g.2.2.2])]⟩ : St)) (by kernel_rfl) ⟨trivial, trivial⟩ ?_
      refine awl_nil ?_
      refine thenQ_n ?_
      refine aw_cond (b := (!ret33v)) (by kernel_rfl) (fun hb => ?_) (fun hb => ?_)
      · have h := h.1 hb
        refine aw_seq ?_
        refine aw_region ?_
        refine awl_runp 1 [2] [] (ob := (True ∧ True)) (st' := (⟨58, [(2, [], .v (.c (.p (.int .i64) (2 : Int))))], []⟩ : St)) (by kernel_rfl) ⟨trivial, trivial⟩ ?_
        refine awl_nil ?_
        refine thenQ_n ?_
        refine aw_ret ?_
        refine thenQ_r ?_
        exact retQ_r (σ := Int) (R := (fun y => [toV1 (.int .i64) y])) (ob := (True ∧ True)) (2 : Int) (by kernel_rfl) ⟨trivial, trivial⟩ h
      · have h := h.2 hb
        refine aw_skip ?_
        refine thenQ_n ?_
        refine aw_seq ?_
        refine aw_seq ?_
        refine aw_region ?_
        refine awl_runp 4 [1, 3, 36, 37, 38] [1] (ob := (True ∧ True ∧ True ∧ True ∧ True)) (st' := (⟨58, [(1, [], .v (.c (.ptr 1 0))), (3, [], .v (.c (.fn 79 []))), (36, [], .v (.c (.p (.sl (.pr (.int .i64) (.sl (.int .i64)))) g.2.2.2))), (37, [], .v (.c (.p (.int .i64) (g.2.2.2.length : Int)))), (38, [], .v (.c (.p (.int .i64) (0 : Int))))], [(1, [], .box [.p (.int .i64) g.1, .p (.int .i64) g.2.1, .p (.int .i64) g.2.2.1, .p (.sl (.pr (.int .i64) (.sl (.int .i64)))) g.2.2.2])]⟩ : St)) (by kernel_rfl) ⟨trivial, trivial, trivial, trivial, trivial⟩ ?_
        refine awl_nil ?_
        refine thenQ_n ?_
        refine withJoin (σ := Unit) (fun s => (⟨58, [], []⟩ : St)) (fun s => VC51_k1 K) (fun s h => ?_) (fun rest1 => ?_)
        · have h : VC51_k1 K := h
          unfold VC51_k1 at h
          refine thenQ_n ?_
          refine aw_seq ?_
          refine aw_region ?_
          refine awl_runp 1 [2] [] (ob := (True ∧ True)) (st' := (⟨58, [(2, [], .v (.c (.p (.int .i64) (0 : Int))))], []⟩ : St)) (by kernel_rfl) ⟨trivial, trivial⟩ ?_
          refine awl_nil ?_
          refine thenQ_n ?_
          refine aw_ret ?_
          exact retQ_r (σ := Int) (R := (fun y => [toV1 (.int .i64) y])) (ob := (True ∧ True)) (0 : Int) (by kernel_rfl) ⟨trivial, trivial⟩ h
        · refine aw_block ?_
          refine aw_loop (σ := Int) (fun s => (⟨58, [(1, [], .v (.c (.ptr 1 0))), (3, [], .v (.c (.fn 79 []))), (36, [], .v (.c (.p (.sl (.pr (.int .i64) (.sl (.int .i64)))) g.2.2.2))), (37, [], .v (.c (.p (.int .i64) (g.2.2.2.length : Int)))), (38, [], .v (.c (.p (.int .i64) s)))], [(1, [], .box [.p (.int .i64) g.1, .p (.int .i64) g.2.1, .p (.int .i64) g.2.2.1, .p (.sl (.pr (.int .i64) (.sl (.int .i64)))) g.2.2.2])]⟩ : St)) (fun s X => VC51_l1 g K s X) (s0 := (0 : Int)) (fun v38 X1 h => ?_) h
          have h : VC51_l1 g K v38 X1 := h
          unfold VC51_l1 at h
          refine aw_seq ?_
          refine aw_region ?_
          refine awl_runp 1 [1, 3, 36, 37, 38, 39] [1] (ob := (True ∧ True)) (st' := (⟨58, [(1, [], .v (.c (.ptr 1 0))), (3, [], .v (.c (.fn 79 []))), (36, [], .v (.c (.p (.sl (.pr (.int .i64) (.sl (.int .i64)))) g.2.2.2))), (37, [], .v (.c (.p (.int .i64) (g.2.2.2.length : Int)))), (38, [], .v (.c (.p (.int .i64) v38))), (39, [], .v (.c (.p .bool (decide (v38 < (g.2.2.2.length : Int))))))], [(1, [], .box [.p (.int .i64) g.1, .p (.int .i64) g.2.1, .p (.int .i64) g.2.2.1, .p (.sl (.pr (.int .i64) (.sl (.int .i64)))) g.2.2.2])]⟩ : St)) (by kernel_rfl) ⟨trivial, trivial⟩ ?_
          refine awl_nil ?_
          refine thenQ_n ?_
          refine aw_seq ?_
          refine aw_cond (b := (decide (v38 < (g.2.2.2.length : Int)))) (by kernel_rfl) (fun hb => ?_) (fun hb => ?_)
          · have h := h.1 hb
            refine aw_skip ?_
            refine thenQ_n ?_
            refine aw_seq ?_
            refine aw_block ?_
            refine aw_seq ?_
            refine aw_region ?_
            obtain ⟨o1, h⟩ := h
            refine awl_runp 4 [1, 3, 5, 36, 37, 38] [1, 5] (ob := (inIdx v38 g.2.2.2.length ∧ True ∧ True ∧ True ∧ True)) (st' := (⟨58, [(1, [], .v (.c (.ptr 1 0))), (3, [], .v (.c (.fn 79 []))), (5, [], .v (.c (.ptr 5 0))), (36, [], .v (.c (.p (.sl (.pr (.int .i64) (.sl (.int .i64)))) g.2.2.2))), (37, [], .v (.c (.p (.int .i64) (g.2.2.2.length : Int)))), (38, [], .v (.c (.p (.int .i64) v38)))], [(1, [], .box [.p (.int .i64) g.1, .p (.int .i64) g.2.1, .p (.int .i64) g.2.2.1, .p (.sl (.pr (.int .i64) (.sl (.int .i64)))) g.2.2.2]), (5, [], .box [.p (.int .i64) ((g.2.2.2.getD (v38).toNat ((0 : Int), ([] : (List Int)))).1), .p (.sl (.int .i64)) ((g.2.2.2.getD (v38).toNat ((0 : Int), ([] : (List Int)))).2)])]⟩ : St)) (by kernel_rfl) ⟨o1, trivial, trivial, trivial, trivial⟩ ?_
            refine awl_nil ?_
            refine thenQ_n ?_
            refine aw_seq ?_
            refine aw_region ?_
            obtain ⟨o1, h⟩ := h
            refine awl_runp 6 [1, 3, 5, 36, 37, 38, 42, 44, 47] [1, 5] (ob := (True ∧ True ∧ True ∧ True ∧ True ∧ InR (g.2.1 - (1 : Int)) ∧ True)) (st' := (⟨58, [(1, [], .v (.c (.ptr 1 0))), (3, [], .v (.c (.fn 79 []))), (5, [], .v (.c (.ptr 5 0))), (36, [], .v (.c (.p (.sl (.pr (.int .i64) (.sl (.int .i64)))) g.2.2.2))), (37, [], .v (.c (.p (.int .i64) (g.2.2.2.length : Int)))), (38, [], .v (.c (.p (.int .i64) v38))), (42, [], .v (.c (.fn 79 []))), (44, [], .v (.c (.p (.int .i64) ((g.2.2.2.getD (v38).toNat ((0 : Int), ([] : (List Int)))).1)))), (47, [], .v (.c (.p (.int .i64) (g.2.1 - (1 : Int)))))], [(1, [], .box [.p (.int .i64) g.1, .p (.int .i64) g.2.1, .p (.int .i64) g.2.2.1, .p (.sl (.pr (.int .i64) (.sl (.int .i64)))) g.2.2.2]), (5, [], .box [.p (.int .i64) ((g.2.2.2.getD (v38).toNat ((0 : Int), ([] : (List Int)))).1), .p (.sl (.int .i64)) ((g.2.2.2.getD (v38).toNat ((0 : Int), ([] : (List Int)))).2)])]⟩ : St)) (by kernel_rfl) ⟨trivial, trivial, trivial, trivial, trivial, o1, trivial⟩ ?_
            refine awl_callk (p := []) (l := [toV1 (.int .i64) ((g.2.2.2.getD (v38).toNat ((0 : Int), ([] : (List Int)))).1), toV1 (.int .i64) (0 : Int), toV1 (.int .i64) (g.2.1 - (1 : Int))]) (cl := []) false [.d (.int .i64), .d (.int .i64), .d (.int .i64)] [1, 3, 5, 36, 37, 38, 48] [1, 5] (fun (ret48v : Bool) => gcall (α := Bool) (!(!ret48v)) (VC81 g ((g.2.2.2.getD (v38).toNat ((0 : Int), ([] : (List Int)))).2)) false (fun (ret54v : Bool) => ((((!ret48v) || (!ret54v)) = true → K (2 : Int)) ∧ (((!ret48v) || (!ret54v)) = false → (InR (v38 + (1 : Int)) ∧ X1 (v38 + (1 : Int))))))) (fun ret48v => [toV1 .bool ret48v]) (fun ret48v => (⟨58, [(1, [], .v (.c (.ptr 1 0))), (3, [], .v (.c (.fn 79 []))), (5, [], .v (.c (.ptr 5 0))), (36, [], .v (.c (.p (.sl (.pr (.int .i64) (.sl (.int .i64)))) g.2.2.2))), (37, [], .v (.c (.p (.int .i64) (g.2.2.2.length : Int)))), (38, [], .v (.c (.p (.int .i64) v38))), (48, [], .v (.c (.p .bool ret48v)))], [(1, [], .box [.p (.int .i64) g.1, .p (.int .i64) g.2.1, .p (.int .i64) g.2.2.1, .p (.sl (.pr (.int .i64) (.sl (.int .i64)))) g.2.2.2]), (5, [], .box [.p (.int .i64) ((g.2.2.2.getD (v38).toNat ((0 : Int), ([] : (List Int)))).1), .p (.sl (.int .i64)) ((g.2.2.2.getD (v38).toNat ((0 : Int), ([] : (List Int)))).2)])]⟩ : St)) (by kernel_rfl) rfl (by kernel_rfl) rfl (by kernel_rfl) Try.call79 (by kernel_rfl) (fun ret48v => by kernel_rfl) (fun e => by cases e) (fun hg => link79 ((g.2.2.2.getD (v38).toNat ((0 : Int), ([] : (List Int)))).1) (0 : Int) (g.2.1 - (1 : Int)) _ h) (fun hg => noF hg) (fun ret48v h => ?_)
            have h : gcall (α := Bool) (!(!ret48v)) (VC81 g ((g.2.2.2.getD (v38).toNat ((0 : Int), ([] : (List Int)))).2)) false (fun (ret54v : Bool) => ((((!ret48v) || (!ret54v)) = true → K (2 : Int)) ∧ (((!ret48v) || (!ret54v)) = false → (InR (v38 + (1 : Int)) ∧ X1 (v38 + (1 : Int)))))) := h
            refine awl_runp 5 [1, 3, 36, 37, 38, 50, 51, 53] [1] (ob := (True ∧ True ∧ ((!ret48v) = false → True) ∧ ((!ret48v) = false → True) ∧ ((!ret48v) = false → True) ∧ True)) (st' := (⟨58, [(1, [], .v (.c (.ptr 1 0))), (3, [], .v (.c (.fn 79 []))), (36, [], .v (.c (.p (.sl (.pr (.int .i64) (.sl (.int .i64)))) g.2.2.2))), (37, [], .v (.c (.p (.int .i64) (g.2.2.2.length : Int)))), (38, [], .v (.c (.p (.int .i64) v38))), (50, [], .v (.c (.p .bool (!ret48v)))), (51, [(50, false)], .v (.agg [.p (.int .i64) g.1, .p (.int .i64) g.2.1, .p (.int .i64) g.2.2.1, .p (.sl (.pr (.int .i64) (.sl (.int .i64)))) g.2.2.2])), (53, [(50, false)], .v (.c (.p (.sl (.int .i64)) ((g.2.2.2.getD (v38).toNat ((0 : Int), ([] : (List Int)))).2))))], [(1, [], .box [.p (.int .i64) g.1, .p (.int .i64) g.2.1, .p (.int .i64) g.2.2.1, .p (.sl (.pr (.int .i64) (.sl (.int .i64)))) g.2.2.2])]⟩ : St)) (by kernel_rfl) ⟨trivial, trivial, (fun _ => trivial), (fun _ => trivial), (fun _ => trivial), trivial⟩ ?_
            refine awl_callk (p := [(50, false)]) (l := [toV1 (.pr (.int .i64) (.pr (.int .i64) (.pr (.int .i64) (.sl (.pr (.int .i64) (.sl (.int .i64))))))) g, toV1 (.sl (.int .i64)) ((g.2.2.2.getD (v38).toNat ((0 : Int), ([] : (List Int)))).2)]) (cl := []) false [.d (.pr (.int .i64) (.pr (.int .i64) (.pr (.int .i64) (.sl (.pr (.int .i64) (.sl (.int .i64))))))), .d (.sl (.int .i64))] [1, 3, 36, 37, 38, 50, 54] [1] (fun (ret54v : Bool) => ((((!ret48v) || (!ret54v)) = true → K (2 : Int)) ∧ (((!ret48v) || (!ret54v)) = false → (InR (v38 + (1 : Int)) ∧ X1 (v38 + (1 : Int)))))) (fun ret54v => [toV1 .bool ret54v]) (fun ret54v => (⟨58, [(1, [], .v (.c (.ptr 1 0))), (3, [], .v (.c (.fn 79 []))), (36, [], .v (.c (.p (.sl (.pr (.int .i64) (.sl (.int .i64)))) g.2.2.2))), (37, [], .v (.c (.p (.int .i64) (g.2.2.2.length : Int)))), (38, [], .v (.c (.p (.int .i64) v38))), (50, [], .v (.c (.p .bool (!ret48v)))), (54, [(50, false)], .v (.c (.p .bool ret54v)))], [(1, [], .box [.p (.int .i64) g.1, .p (.int .i64) g.2.1, .p (.int .i64) g.2.2.1, .p (.sl (.pr (.int .i64) (.sl (.int .i64)))) g.2.2.2])]⟩ : St)) (by kernel_rfl) rfl (by kernel_rfl) rfl (by kernel_rfl) Try.call81 (by kernel_rfl) (fun ret54v => by kernel_rfl) (fun e => by cases e) (fun hg => link81 g ((g.2.2.2.getD (v38).toNat ((0 : Int), ([] : (List Int)))).2) _ (by have := gcall_T h (show (!(!ret48v)) = true from hg); exact this)) (fun hg => ⟨false, by have := gcall_F h (show (!(!ret48v)) = false from hg); exact this⟩) (fun ret54v h => ?_)
            have h : ((((!ret48v) || (!ret54v)) = true → K (2 : Int)) ∧ (((!ret48v) || (!ret54v)) = false → (InR (v38 + (1 : Int)) ∧ X1 (v38 + (1 : Int))))) := h
            refine awl_runp 2 [1, 3, 36, 37, 38, 56] [1] (ob := (((!ret48v) = false → True) ∧ True ∧ True)) (st' := (⟨58, [(1, [], .v (.c (.ptr 1 0))), (3, [], .v (.c (.fn 79 []))), (36, [], .v (.c (.p (.sl (.pr (.int .i64) (.sl (.int .i64)))) g.2.2.2))), (37, [], .v (.c (.p (.int .i64) (g.2.2.2.length : Int)))), (38, [], .v (.c (.p (.int .i64) v38))), (56, [], .v (.c (.p .bool ((!ret48v) || (!ret54v)))))], [(1, [], .box [.p (.int .i64) g.1, .p (.int .i64) g.2.1, .p (.int .i64) g.2.2.1, .p (.sl (.pr (.int .i64) (.sl (.int .i64)))) g.2.2.2])]⟩ : St)) (by kernel_rfl) ⟨(fun _ => trivial), trivial, trivial⟩ ?_
            refine awl_nil ?_
            refine thenQ_n ?_
            refine aw_cond (b := ((!ret48v) || (!ret54v))) (by kernel_rfl) (fun hb => ?_) (fun hb => ?_)
            · have h := h.1 hb
              refine aw_seq ?_
              refine aw_region ?_
              refine awl_runp 1 [2] [] (ob := (True ∧ True)) (st' := (⟨58, [(2, [], .v (.c (.p (.int .i64) (2 : Int))))], []⟩ : St)) (by kernel_rfl) ⟨trivial, trivial⟩ ?_
              refine awl_nil ?_
              refine thenQ_n ?_
              refine aw_ret ?_
              refine blockQ_r ?_
              refine thenQ_r ?_
              refine thenQ_r ?_
              refine blockQ_r ?_
              refine thenQ_r ?_
              exact retQ_r (σ := Int) (R := (fun y => [toV1 (.int .i64) y])) (ob := (True ∧ True)) (2 : Int) (by kernel_rfl) ⟨trivial, trivial⟩ h
            · have h := h.2 hb
              refine aw_skip ?_
              refine blockQ_n ?_
              refine thenQ_n ?_
              refine aw_region ?_
              obtain ⟨o1, h⟩ := h
              refine awl_runp 2 [1, 3, 36, 37, 38] [1] (ob := (InR (v38 + (1 : Int)) ∧ True ∧ True)) (st' := (⟨58, [(1, [], .v (.c (.ptr 1 0))), (3, [], .v (.c (.fn 79 []))), (36, [], .v (.c (.p (.sl (.pr (.int .i64) (.sl (.int .i64)))) g.2.2.2))), (37, [], .v (.c (.p (.int .i64) (g.2.2.2.length : Int)))), (38, [], .v (.c (.p (.int .i64) (v38 + (1 : Int)))))], [(1, [], .box [.p (.int .i64) g.1, .p (.int .i64) g.2.1, .p (.int .i64) g.2.2.1, .p (.sl (.pr (.int .i64) (.sl (.int .i64)))) g.2.2.2])]⟩ : St)) (by kernel_rfl) ⟨o1, trivial, trivial⟩ ?_
              refine awl_nil ?_
              exact thenQ_n ⟨(v38 + (1 : Int)), rfl, h⟩
          · have h := h.2 hb
            refine aw_conv [.prune [] []] (st' := (⟨58, [], []⟩ : St)) (by kernel_rfl) ?_
            refine aw_exit ?_
            refine thenQ_x ?_
            refine thenQ_x ?_
            refine blockQ_hit ?_
            exact rest1 () h

-- coppicer/grammar.checked
def VC39 (g : (Int × (Int × (Int × (List (Int × (List Int))))))) (F1 : (Int × (Int × (Int × (List (Int × (List Int)))))) → (Int → Prop) → Prop) (K : Int × Int → Prop) : Prop :=
  VC51 g (fun (ret8v : Int) => (((!decide (ret8v = (0 : Int))) = true → K ((0 : Int), ret8v)) ∧ ((!decide (ret8v = (0 : Int))) = false → F1 g (fun (ret14v : Int) => K (ret14v, (0 : Int))))))

set_option maxHeartbeats 4000000 in
theorem link39 (g : (Int × (Int × (Int × (List (Int × (List Int))))))) (fv1 : FuncId) (cv1 : List Dat) (F1 : (Int × (Int × (Int × (List (Int × (List Int)))))) → (Int → Prop) → Prop) (hF1 : FnIs Try.prog fv1 cv1 (fun (x : (Int × (Int × (Int × (List (Int × (List Int))))))) => [toV1 (.pr (.int .i64) (.pr (.int .i64) (.pr (.int .i64) (.sl (.pr (.int .i64) (.sl (.int .i64))))))) x]) (fun (y : Int) => [toV1 (.int .u32) y]) F1) (K : Int × Int → Prop) (h : VC39 g F1 K) : ACalls Try.prog 39 [toV1 (.pr (.int .i64) (.pr (.int .i64) (.pr (.int .i64) (.sl (.pr (.int .i64) (.sl (.int .i64))))))) g, .c (.fn fv1 cv1)] (fun res => ∃ y, res = (fun y => [toV1 (.int .u32) y.1, toV1 (.int .i64) y.2]) y ∧ K y) := by
  refine acalls_of_aw [(.int .u32), (.int .i64)] [.t 4, .t 5] Try.func39 rfl rfl rfl ?_
  unfold VC39 at h
  refine aw_seq ?_
  refine aw_region ?_
  refine awl_runp 3 [1, 2] [2] (ob := (True ∧ True ∧ True ∧ True)) (st' := (⟨15, [(1, [], .v (.c (.fn fv1 cv1))), (2, [], .v (.c (.ptr 2 0)))], [(2, [], .box [.p (.int .i64) g.1, .p (.int .i64) g.2.1, .p (.int .i64) g.2.2.1, .p (.sl (.pr (.int .i64) (.sl (.int .i64)))) g.2.2.2])]⟩ : St)) (by kernel_rfl) ⟨trivial, trivial, trivial, trivial⟩ ?_
  refine awl_nil ?_
  refine thenQ_n ?_
  refine aw_seq ?_
  refine aw_seq ?_
  refine aw_region ?_
  refine awl_runp 1 [1, 2, 7] [2] (ob := (True ∧ True)) (st' := (⟨15, [(1, [], .v (.c (.fn fv1 cv1))), (2, [], .v (.c (.ptr 2 0))), (7, [], .v (.agg [.p (.int .i64) g.1, .p (.int .i64) g.2.1, .p (.int .i64) g.2.2.1, .p (.sl (.pr (.int .i64) (.sl (.int .i64)))) g.2.2.2]))], [(2, [], .box [.p (.int .i64) g.1, .p (.int .i64) g.2.1, .p (.int .i64) g.2.2.1, .p (.sl (.pr (.int .i64) (.sl (.int .i64)))) g.2.2.2])]⟩ : St)) (by kernel_rfl) ⟨trivial, trivial⟩ ?_
  refine awl_callk (p := []) (l := [toV1 (.pr (.int .i64) (.pr (.int .i64) (.pr (.int .i64) (.sl (.pr (.int .i64) (.sl (.int .i64))))))) g]) (cl := []) false [.d (.pr (.int .i64) (.pr (.int .i64) (.pr (.int .i64) (.sl (.pr (.int .i64) (.sl (.int .i64)))))))] [1, 2, 8] [2] (fun (ret8v : Int) => (((!decide (ret8v = (0 : Int))) = true → K ((0 : Int), ret8v)) ∧ ((!decide (ret8v = (0 : Int))) = false → F1 g (fun (ret14v : Int) => K (ret14v, (0 : Int)))))) (fun ret8v => [toV1 (.int .i64) ret8v]) (fun ret8v => (⟨15, [(1, [], .v (.c (.fn fv1 cv1))), (2, [], .v (.c (.ptr 2 0))), (8, [], .v (.c (.p (.int .i64) ret8v)))], [(2, [], .box [.p (.int .i64) g.1, .p (.int .i64) g.2.1, .p (.int .i64) g.2.2.1, .p (.sl (.pr (.int .i64) (.sl (.int .i64)))) g.2.2.2])]⟩ : St)) (by kernel_rfl) rfl (by kernel_rfl) rfl (by kernel_rfl) Try.call51 (by kernel_rfl) (fun ret8v => by kernel_rfl) (fun e => by cases e) (fun hg => link51 g _ h) (fun hg => noF hg) (fun ret8v h => ?_)
  have h : (((!decide (ret8v = (0 : Int))) = true → K ((0 : Int), ret8v)) ∧ ((!decide (ret8v = (0 : Int))) = false → F1 g (fun (ret14v : Int) => K (ret14v, (0 : Int))))) := h
  refine awl_runp 1 [1, 2, 6] [2] (ob := (True ∧ True)) (st' := (⟨15, [(1, [], .v (.c (.fn fv1 cv1))), (2, [], .v (.c (.ptr 2 0))), (6, [], .v (.c (.p (.int .i64) ret8v)))], [(2, [], .box [.p (.int .i64) g.1, .p (.int .i64) g.2.1, .p (.int .i64) g.2.2.1, .p (.sl (.pr (.int .i64) (.sl (.int .i64)))) g.2.2.2])]⟩ : St)) (by kernel_rfl) ⟨trivial, trivial⟩ ?_
  refine awl_nil ?_
  refine thenQ_n ?_
  refine aw_seq ?_
  refine aw_region ?_
  refine awl_runp 2 [1, 2, 6, 10] [2] (ob := (True ∧ True ∧ True)) (st' := (⟨15, [(1, [], .v (.c (.fn fv1 cv1))), (2, [], .v (.c (.ptr 2 0))), (6, [], .v (.c (.p (.int .i64) ret8v))), (10, [], .v (.c (.p .bool (!decide (ret8v = (0 : Int))))))], [(2, [], .box [.p (.int .i64) g.1, .p (.int .i64) g.2.1, .p (.int .i64) g.2.2.1, .p (.sl (.pr (.int .i64) (.sl (.int .i64)))) g.2.2.2])]⟩ : St)) (by kernel_rfl) ⟨trivial, trivial, trivial⟩ ?_
  refine awl_nil ?_
  refine thenQ_n ?_
  refine aw_cond (b := (!decide (ret8v = (0 : Int)))) (by kernel_rfl) (fun hb => ?_) (fun hb => ?_)
  · have h := h.1 hb
    refine aw_seq ?_
    refine aw_region ?_
    refine awl_runp 3 [4, 5] [] (ob := (True ∧ True ∧ True ∧ True)) (st' := (⟨15, [(4, [], .v (.c (.p (.int .u32) (0 : Int)))), (5, [], .v (.c (.p (.int .i64) ret8v)))], []⟩ : St)) (by kernel_rfl) ⟨trivial, trivial, trivial, trivial⟩ ?_
    refine awl_nil ?_
    refine thenQ_n ?_
    refine aw_ret ?_
    refine thenQ_r ?_
    exact retQ_r (σ := Int × Int) (R := (fun y => [toV1 (.int .u32) y.1, toV1 (.int .i64) y.2])) (ob := (True ∧ True ∧ True)) ((0 : Int), ret8v) (by kernel_rfl) ⟨trivial, trivial, trivial⟩ h
  · have h := h.2 hb
    refine aw_skip ?_
    refine thenQ_n ?_
    refine aw_seq ?_
    refine aw_region ?_
    refine awl_runp 2 [12, 13] [] (ob := (True ∧ True ∧ True)) (st' := (⟨15, [(12, [], .v (.c (.fn fv1 cv1))), (13, [], .v (.agg [.p (.int .i64) g.1, .p (.int .i64) g.2.1, .p (.int .i64) g.2.2.1, .p (.sl (.pr (.int .i64) (.sl (.int .i64)))) g.2.2.2]))], []⟩ : St)) (by kernel_rfl) ⟨trivial, trivial, trivial⟩ ?_
    refine awl_callk (p := []) (l := [toV1 (.pr (.int .i64) (.pr (.int .i64) (.pr (.int .i64) (.sl (.pr (.int .i64) (.sl (.int .i64))))))) g]) false [.d (.pr (.int .i64) (.pr (.int .i64) (.pr (.int .i64) (.sl (.pr (.int .i64) (.sl (.int .i64)))))))] [14] [] (fun (ret14v : Int) => K (ret14v, (0 : Int))) (fun ret14v => [toV1 (.int .u32) ret14v]) (fun ret14v => (⟨15, [(14, [], .v (.c (.p (.int .u32) ret14v)))], []⟩ : St)) (by kernel_rfl) rfl (by kernel_rfl) rfl (by kernel_rfl) hF1.1 (by kernel_rfl) (fun ret14v => by kernel_rfl) (fun e => by cases e) (fun hg => hF1.2 g _ h) (fun hg => noF hg) (fun ret14v h => ?_)
    have h : K (ret14v, (0 : Int)) := h
    refine awl_runp 2 [4, 5] [] (ob := (True ∧ True ∧ True)) (st' := (⟨15, [(4, [], .v (.c (.p (.int .u32) ret14v))), (5, [], .v (.c (.p (.int .i64) (0 : Int))))], []⟩ : St)) (by kernel_rfl) ⟨trivial, trivial, trivial⟩ ?_
    refine awl_nil ?_
    refine thenQ_n ?_
    refine aw_ret ?_
    exact retQ_r (σ := Int × Int) (R := (fun y => [toV1 (.int .u32) y.1, toV1 (.int .i64) y.2])) (ob := (True ∧ True ∧ True)) (ret14v, (0 : Int)) (by kernel_rfl) ⟨trivial, trivial, trivial⟩ h

-- coppicer/machine.Has
def VC47 (setv : Int) (n : Int) (K : Bool → Prop) : Prop :=
  ((0 ≤ setv ∧ 0 ≤ n) ∧ K (decide ((bAnd .u32 (bShr .u32 setv n) (1 : Int)) = (1 : Int))))

set_option maxHeartbeats 4000000 in
theorem link47 (setv : Int) (n : Int) (K : Bool → Prop) (h : VC47 setv n K) : ACalls Try.prog 47 [toV1 (.int .u32) setv, toV1 (.int .i64) n] (fun res => ∃ y, res = (fun y => [toV1 .bool y]) y ∧ K y) := by
  refine acalls_of_aw [.bool] [.t 4] Try.func47 rfl rfl rfl ?_
  unfold VC47 at h
  refine aw_seq ?_
  refine aw_region ?_
  refine awl_runp 1 [0, 1] [] (ob := (True ∧ True)) (st' := (⟨10, [(0, [], .v (.c (.p (.int .u32) setv))), (1, [], .v (.c (.p (.int .i64) n)))], []⟩ : St)) (by kernel_rfl) ⟨trivial, trivial⟩ ?_
  refine awl_nil ?_
  refine thenQ_n ?_
  refine aw_seq ?_
  refine aw_region ?_
  obtain ⟨o1, h⟩ := h
  refine awl_runp 6 [4] [] (ob := (True ∧ True ∧ (0 ≤ setv ∧ 0 ≤ n) ∧ True ∧ True ∧ True ∧ True)) (st' := (⟨10, [(4, [], .v (.c (.p .bool (decide ((bAnd .u32 (bShr .u32 setv n) (1 : Int)) = (1 : Int))))))], []⟩ : St)) (by kernel_rfl) ⟨trivial, trivial, o1, trivial, trivial, trivial, trivial⟩ ?_
  refine awl_nil ?_
  refine thenQ_n ?_
  refine aw_ret ?_
  exact retQ_r (σ := Bool) (R := (fun y => [toV1 .bool y])) (ob := (True ∧ True)) (decide ((bAnd .u32 (bShr .u32 setv n) (1 : Int)) = (1 : Int))) (by kernel_rfl) ⟨trivial, trivial⟩ h

-- coppicer/grammar.AllOf$1
def VC126 (sv : Int) (a1 : (Int × (Int × (Int × (List (Int × (List Int))))))) (a2 : Bool) (a3 : Int) (K : Bool → Prop) : Prop :=
  (((decide (sv < a1.1)) = true → K (!a2)) ∧ ((decide (sv < a1.1)) = false → (InR (sv - a1.1) ∧ VC47 a3 (sv - a1.1) (fun (ret17v : Bool) => K (!ret17v)))))

set_option maxHeartbeats 4000000 in
theorem link126 (sv : Int) (a1 : (Int × (Int × (Int × (List (Int × (List Int))))))) (a2 : Bool) (a3 : Int) (K : Bool → Prop) (h : VC126 sv a1 a2 a3 K) : ACalls Try.prog 126 [toV1 (.int .i64) sv, .c (.ad (.pr (.int .i64) (.pr (.int .i64) (.pr (.int .i64) (.sl (.pr (.int .i64) (.sl (.int .i64))))))) a1), .c (.ad .bool a2), .c (.ad (.int .u32) a3)] (fun res => ∃ y, res = (fun y => [toV1 .bool y]) y ∧ K y) := by
  refine acalls_of_aw [.bool] [.t 5] Try.func126 rfl rfl rfl ?_
  unfold VC126 at h
  refine aw_seq ?_
  refine aw_region ?_
  refine awl_runp 1 [0, 1, 2, 3] [] (ob := (True ∧ True)) (st' := (⟨19, [(0, [], .v (.c (.p (.int .i64) sv))), (1, [], .v (.c (.ad (.pr (.int .i64) (.pr (.int .i64) (.pr (.int .i64) (.sl (.pr (.int .i64) (.sl (.int .i64))))))) a1))), (2, [], .v (.c (.ad .bool a2))), (3, [], .v (.c (.ad (.int .u32) a3)))], []⟩ : St)) (by kernel_rfl) ⟨trivial, trivial⟩ ?_
  refine awl_nil ?_
  refine thenQ_n ?_
  refine aw_seq ?_
  refine aw_seq ?_
  refine aw_region ?_
  refine awl_runp 4 [0, 1, 2, 3, 9] [] (ob := (True ∧ True ∧ True ∧ True ∧ True)) (st' := (⟨19, [(0, [], .v (.c (.p (.int .i64) sv))), (1, [], .v (.c (.ad (.pr (.int .i64) (.pr (.int .i64) (.pr (.int .i64) (.sl (.pr (.int .i64) (.sl (.int .i64))))))) a1))), (2, [], .v (.c (.ad .bool a2))), (3, [], .v (.c (.ad (.int .u32) a3))), (9, [], .v (.c (.p .bool (decide (sv < a1.1)))))], []⟩ : St)) (by kernel_rfl) ⟨trivial, trivial, trivial, trivial, trivial⟩ ?_
  refine awl_nil ?_
  refine thenQ_n ?_
  refine aw_cond (b := (decide (sv < a1.1))) (by kernel_rfl) (fun hb => ?_) (fun hb => ?_)
  · have h := h.1 hb
    refine aw_seq ?_
    refine aw_region ?_
    refine awl_runp 3 [5] [] (ob := (True ∧ True ∧ True ∧ True)) (st' := (⟨19, [(5, [], .v (.c (.p .bool (!a2))))], []⟩ : St)) (by kernel_rfl) ⟨trivial, trivial, trivial, trivial⟩ ?_
    refine awl_nil ?_
    refine thenQ_n ?_
    refine aw_ret ?_
    refine thenQ_r ?_
    exact retQ_r (σ := Bool) (R := (fun y => [toV1 .bool y])) (ob := (True ∧ True)) (!a2) (by kernel_rfl) ⟨trivial, trivial⟩ h
  · have h := h.2 hb
    refine aw_skip ?_
    refine thenQ_n ?_
    refine aw_seq ?_
    refine aw_region ?_
    obtain ⟨o1, h⟩ := h
    refine awl_runp 5 [12, 16] [] (ob := (True ∧ True ∧ True ∧ True ∧ InR (sv - a1.1) ∧ True)) (st' := (⟨19, [(12, [], .v (.c (.p (.int .u32) a3))), (16, [], .v (.c (.p (.int .i64) (sv - a1.1))))], []⟩ : St)) (by kernel_rfl) ⟨trivial, trivial, trivial, trivial, o1, trivial⟩ ?_
    refine awl_callk (p := []) (l := [toV1 (.int .u32) a3, toV1 (.int .i64) (sv - a1.1)]) (cl := []) false [.d (.int .u32), .d (.int .i64)] [17] [] (fun (ret17v : Bool) => K (!ret17v)) (fun ret17v => [toV1 .bool ret17v]) (fun ret17v => (⟨19, [(17, [], .v (.c (.p .bool ret17v)))], []⟩ : St)) (by kernel_rfl) rfl (by kernel_rfl) rfl (by kernel_rfl) Try.call47 (by kernel_rfl) (fun ret17v => by kernel_rfl) (fun e => by cases e) (fun hg => link47 a3 (sv - a1.1) _ h) (fun hg => noF hg) (fun ret17v h => ?_)
    have h : K (!ret17v) := h
    refine awl_runp 2 [5] [] (ob := (True ∧ True ∧ True)) (st' := (⟨19, [(5, [], .v (.c (.p .bool (!ret17v))))], []⟩ : St)) (by kernel_rfl) ⟨trivial, trivial, trivial⟩ ?_
    refine awl_nil ?_
    refine thenQ_n ?_
    refine aw_ret ?_
    exact retQ_r (σ := Bool) (R := (fun y => [toV1 .bool y])) (ob := (True ∧ True)) (!ret17v) (by kernel_rfl) ⟨trivial, trivial⟩ h

-- coppicer/grammar.AllOf
def VC104 (g : (Int × (Int × (Int × (List (Int × (List Int))))))) (l : (List Int)) (setv : Int) (symbols : Bool) (K : Bool → Prop) : Prop :=
  VC59 l (fun (x : Int) (K : Bool → Prop) => VC126 x g symbols setv K) (fun (ret11v : Bool) => K (!ret11v))

set_option maxHeartbeats 4000000 in
theorem link104 (g : (Int × (Int × (Int × (List (Int × (List Int))))))) (l : (List Int)) (setv : Int) (symbols : Bool) (K : Bool → Prop) (h : VC104 g l setv symbols K) : ACalls Try.prog 104 [toV1 (.pr (.int .i64) (.pr (.int .i64) (.pr (.int .i64) (.sl (.pr (.int .i64) (.sl (.int .i64))))))) g, toV1 (.sl (.int .i64)) l, toV1 (.int .u32) setv, toV1 .bool symbols] (fun res => ∃ y, res = (fun y => [toV1 .bool y]) y ∧ K y) := by
  refine acalls_of_aw [.bool] [.t 8] Try.func104 rfl rfl rfl ?_
  unfold VC104 at h
  refine aw_seq ?_
  refine aw_region ?_
  refine awl_runp 4 [1, 4, 6, 7] [4, 6, 7] (ob := (True ∧ True ∧ True ∧ True ∧ True)) (st' := (⟨13, [(1, [], .v (.c (.p (.sl (.int .i64)) l))), (4, [], .v (.c (.ptr 4 0))), (6, [], .v (.c (.ptr 6 0))), (7, [], .v (.c (.ptr 7 0)))], [(4, [], .box [.p (.int .i64) g.1, .p (.int .i64) g.2.1, .p (.int .i64) g.2.2.1, .p (.sl (.pr (.int .i64) (.sl (.int .i64)))) g.2.2.2]), (6, [], .box [.p (.int .u32) setv]), (7, [], .box [.p .bool symbols])]⟩ : St)) (by kernel_rfl) ⟨trivial, trivial, trivial, trivial, trivial⟩ ?_
  refine awl_nil ?_
  refine thenQ_n ?_
  refine aw_seq ?_
  refine aw_region ?_
  refine awl_runp 1 [4, 6, 7, 9] [4, 6, 7] (ob := (True ∧ True)) (st' := (⟨13, [(4, [], .v (.c (.ptr 4 0))), (6, [], .v (.c (.ptr 6 0))), (7, [], .v (.c (.ptr 7 0))), (9, [], .v (.c (.p (.sl (.int .i64)) l)))], [(4, [], .box [.p (.int .i64) g.1, .p (.int .i64) g.2.1, .p (.int .i64) g.2.2.1, .p (.sl (.pr (.int .i64) (.sl (.int .i64)))) g.2.2.2]), (6, [], .box [.p (.int .u32) setv]), (7, [], .box [.p .bool symbols])]⟩ : St)) (by kernel_rfl) ⟨trivial, trivial⟩ ?_
  refine awl_conv [.freezeB 4 (.pr (.int .i64) (.pr (.int .i64) (.pr (.int .i64) (.sl (.pr (.int .i64) (.sl (.int .i64))))))), .freezeB 7 .bool, .freezeB 6 (.int .u32)] (st' := (⟨13, [(4, [], .v (.c (.ad (.pr (.int .i64) (.pr (.int .i64) (.pr (.int .i64) (.sl (.pr (.int .i64) (.sl (.int .i64))))))) g))), (6, [], .v (.c (.ad (.int .u32) setv))), (7, [], .v (.c (.ad .bool symbols))), (9, [], .v (.c (.p (.sl (.int .i64)) l)))], []⟩ : St)) (by kernel_rfl) ?_
  refine awl_runp 1 [9, 10] [] (ob := (True ∧ True)) (st' := (⟨13, [(9, [], .v (.c (.p (.sl (.int .i64)) l))), (10, [], .v (.c (.fn 126 [(⟨(.pr (.int .i64) (.pr (.int .i64) (.pr (.int .i64) (.sl (.pr (.int .i64) (.sl (.int .i64))))))), g⟩ : Dat), (⟨.bool, symbols⟩ : Dat), (⟨(.int .u32), setv⟩ : Dat)])))], []⟩ : St)) (by kernel_rfl) ⟨trivial, trivial⟩ ?_
  refine awl_callk (p := []) (l := [toV1 (.sl (.int .i64)) l, .c (.fn 126 [(⟨(.pr (.int .i64) (.pr (.int .i64) (.pr (.int .i64) (.sl (.pr (.int .i64) (.sl (.int .i64))))))), g⟩ : Dat), (⟨.bool, symbols⟩ : Dat), (⟨(.int .u32), setv⟩ : Dat)])]) (cl := []) false [.d (.sl (.int .i64)), .fn] [11] [] (fun (ret11v : Bool) => K (!ret11v)) (fun ret11v => [toV1 .bool ret11v]) (fun ret11v => (⟨13, [(11, [], .v (.c (.p .bool ret11v)))], []⟩ : St)) (by kernel_rfl) rfl (by kernel_rfl) rfl (by kernel_rfl) Try.call59 (by kernel_rfl) (fun ret11v => by kernel_rfl) (fun e => by cases e) (fun hg => link59 l 126 [(⟨(.pr (.int .i64) (.pr (.int .i64) (.pr (.int .i64) (.sl (.pr (.int .i64) (.sl (.int .i64))))))), g⟩ : Dat), (⟨.bool, symbols⟩ : Dat), (⟨(.int .u32), setv⟩ : Dat)] (fun (x : Int) (K : Bool → Prop) => VC126 x g symbols setv K) ⟨Try.call126, fun x K h => link126 x g symbols setv K h⟩ _ h) (fun hg => noF hg) (fun ret11v h => ?_)
  have h : K (!ret11v) := h
  refine awl_runp 2 [8] [] (ob := (True ∧ True ∧ True)) (st' := (⟨13, [(8, [], .v (.c (.p .bool (!ret11v))))], []⟩ : St)) (by kernel_rfl) ⟨trivial, trivial, trivial⟩ ?_
  refine awl_nil ?_
  refine thenQ_n ?_
  refine aw_ret ?_
  exact retQ_r (σ := Bool) (R := (fun y => [toV1 .bool y])) (ob := (True ∧ True)) (!ret11v) (by kernel_rfl) ⟨trivial, trivial⟩ h

-- coppicer/grammar.derive
def VC74_k1 (K : Int → Prop) (out : Int) (X1 : Int → Prop) (out2 : Int) : Prop :=
  (((decide (out2 = out)) = true → K out2) ∧ ((decide (out2 = out)) = false → X1 out2))

def VC74_k2 (v13 : Int) (X2 : Int × Int → Prop) (out3 : Int) : Prop :=
  (InR (v13 + (1 : Int)) ∧ X2 (out3, (v13 + (1 : Int))))

def VC74_l2 (g : (Int × (Int × (Int × (List (Int × (List Int))))))) (symbols : Bool) (K : Int → Prop) (out : Int) (X1 : Int → Prop) (out2 : Int) (v13 : Int) (X2 : Int × Int → Prop) : Prop :=
  (((decide (v13 < (g.2.2.2.length : Int))) = true → (inIdx v13 g.2.2.2.length ∧ VC104 g ((g.2.2.2.getD (v13).toNat ((0 : Int), ([] : (List Int)))).2) out2 symbols (fun (ret22v : Bool) => ((ret22v = true → (0 ≤ (g.2.2.2.getD (v13).toNat ((0 : Int), ([] : (List Int)))).1 ∧ VC74_k2 v13 X2 (bOr .u32 out2 (bShl .u32 (1 : Int) ((g.2.2.2.getD (v13).toNat ((0 : Int), ([] : (List Int)))).1))))) ∧ (ret22v = false → VC74_k2 v13 X2 out2))))) ∧ ((decide (v13 < (g.2.2.2.length : Int))) = false → VC74_k1 K out X1 out2))

def VC74_l1 (g : (Int × (Int × (Int × (List (Int × (List Int))))))) (symbols : Bool) (K : Int → Prop) (out : Int) (X1 : Int → Prop) : Prop :=
  Loop (σ := Int × Int) (fun s X => VC74_l2 g symbols K out X1 s.1 s.2 X) (out, (0 : Int))

def VC74 (g : (Int × (Int × (Int × (List (Int × (List Int))))))) (symbols : Bool) (K : Int → Prop) : Prop :=
  Loop (σ := Int) (fun s X => VC74_l1 g symbols K s X) (0 : Int)

set_option maxHeartbeats 4000000 in
theorem link74 (g : (Int × (Int × (Int × (List (Int × (List Int))))))) (symbols : Bool) (K : Int → Prop) (h : VC74 g symbols K) : ACalls Try.prog 74 [toV1 (.pr (.int .i64) (.pr (.int .i64) (.pr (.int .i64) (.sl (.pr (.int .i64) (.sl (.int .i64))))))) g, toV1 .bool symbols] (fun res => ∃ y, res = (fun y => [toV1 (.int .u32) y]) y ∧ K y) := by
  refine acalls_of_aw [(.int .u32)] [.t 4] Try.func74 rfl rfl rfl ?_
  unfold VC74 at h
  refine aw_seq ?_
  refine aw_region ?_
  refine awl_runp 2 [1, 2] [2] (ob := (True ∧ True ∧ True)) (st' := (⟨33, [(1, [], .v (.c (.p .bool symbols))), (2, [], .v (.c (.ptr 2 0)))], [(2, [], .box [.p (.int .i64) g.1, .p (.int .i64) g.2.1, .p (.int .i64) g.2.2.1, .p (.sl (.pr (.int .i64) (.sl (.int .i64)))) g.2.2.2])]⟩ : St)) (by kernel_rfl) ⟨trivial, trivial, trivial⟩ ?_
  refine awl_nil ?_
  refine thenQ_n ?_
  refine aw_seq ?_
  refine aw_region ?_
  refine awl_runp 1 [1, 2, 5] [2] (ob := (True ∧ True)) (st' := (⟨33, [(1, [], .v (.c (.p .bool symbols))), (2, [], .v (.c (.ptr 2 0))), (5, [], .v (.c (.p (.int .u32) (0 : Int))))], [(2, [], .box [.p (.int .i64) g.1, .p (.int .i64) g.2.1, .p (.int .i64) g.2.2.1, .p (.sl (.pr (.int .i64) (.sl (.int .i64)))) g.2.2.2])]⟩ : St)) (by kernel_rfl) ⟨trivial, trivial⟩ ?_
  refine awl_nil ?_
  refine thenQ_n ?_
  refine aw_block ?_
  refine aw_loop (σ := Int) (fun s => (⟨33, [(1, [], .v (.c (.p .bool symbols))), (2, [], .v (.c (.ptr 2 0))), (5, [], .v (.c (.p (.int .u32) s)))], [(2, [], .box [.p (.int .i64) g.1, .p (.int .i64) g.2.1, .p (.int .i64) g.2.2.1, .p (.sl (.pr (.int .i64) (.sl (.int .i64)))) g.2.2.2])]⟩ : St)) (fun s X => VC74_l1 g symbols K s X) (s0 := (0 : Int)) (fun out X1 h => ?_) h
  have h : VC74_l1 g symbols K out X1 := h
  unfold VC74_l1 at h
  refine aw_block ?_
  refine aw_seq ?_
  refine aw_region ?_
  refine awl_runp 2 [1, 2, 5, 6] [2] (ob := (True ∧ True ∧ True)) (st' := (⟨33, [(1, [], .v (.c (.p .bool symbols))), (2, [], .v (.c (.ptr 2 0))), (5, [], .v (.c (.p (.int .u32) out))), (6, [], .v (.c (.p (.int .u32) out)))], [(2, [], .box [.p (.int .i64) g.1, .p (.int .i64) g.2.1, .p (.int .i64) g.2.2.1, .p (.sl (.pr (.int .i64) (.sl (.int .i64)))) g.2.2.2])]⟩ : St)) (by kernel_rfl) ⟨trivial, trivial, trivial⟩ ?_
  refine awl_nil ?_
  refine thenQ_n ?_
  refine aw_seq ?_
  refine aw_seq ?_
  refine aw_region ?_
  refine awl_runp 4 [1, 2, 5, 6, 11, 12, 13] [2] (ob := (True ∧ True ∧ True ∧ True ∧ True)) (st' := (⟨33, [(1, [], .v (.c (.p .bool symbols))), (2, [], .v (.c (.ptr 2 0))), (5, [], .v (.c (.p (.int .u32) out))), (6, [], .v (.c (.p (.int .u32) out))), (11, [], .v (.c (.p (.sl (.pr (.int .i64) (.sl (.int .i64)))) g.2.2.2))), (12, [], .v (.c (.p (.int .i64) (g.2.2.2.length : Int)))), (13, [], .v (.c (.p (.int .i64) (0 : Int))))], [(2, [], .box [.p (.int .i64) g.1, .p (.int .i64) g.2.1, .p (.int .i64) g.2.2.1, .p (.sl (.pr (.int .i64) (.sl (.int .i64)))) g.2.2.2])]⟩ : St)) (by kernel_rfl) ⟨trivial, trivial, trivial, trivial, trivial⟩ ?_
  refine awl_nil ?_
  refine thenQ_n ?_
  refine withJoin (σ := Int) (fun s => (⟨33, [(1, [], .v (.c (.p .bool symbols))), (2, [], .v (.c (.ptr 2 0))), (5, [], .v (.c (.p (.int .u32) s))), (6, [], .v (.c (.p (.int .u32) out)))], [(2, [], .box [.p (.int .i64) g.1, .p (.int .i64) g.2.1, .p (.int .i64) g.2.2.1, .p (.sl (.pr (.int .i64) (.sl (.int .i64)))) g.2.2.2])]⟩ : St)) (fun s => VC74_k1 K out X1 s) (fun out2 h => ?_) (fun rest1 => ?_)
  · have h : VC74_k1 K out X1 out2 := h
    unfold VC74_k1 at h
    refine thenQ_n ?_
    refine aw_seq ?_
    refine aw_region ?_
    refine awl_runp 3 [1, 2, 5, 31] [2] (ob := (True ∧ True ∧ True ∧ True)) (st' := (⟨33, [(1, [], .v (.c (.p .bool symbols))), (2, [], .v (.c (.ptr 2 0))), (5, [], .v (.c (.p (.int .u32) out2))), (31, [], .v (.c (.p .bool (decide (out2 = out)))))], [(2, [], .box [.p (.int .i64) g.1, .p (.int .i64) g.2.1, .p (.int .i64) g.2.2.1, .p (.sl (.pr (.int .i64) (.sl (.int .i64)))) g.2.2.2])]⟩ : St)) (by kernel_rfl) ⟨trivial, trivial, trivial, trivial⟩ ?_
    refine awl_nil ?_
    refine thenQ_n ?_
    refine aw_cond (b := (decide (out2 = out))) (by kernel_rfl) (fun hb => ?_) (fun hb => ?_)
    · have h := h.1 hb
      refine aw_seq ?_
      refine aw_region ?_
      refine awl_runp 2 [4] [] (ob := (True ∧ True ∧ True)) (st' := (⟨33, [(4, [], .v (.c (.p (.int .u32) out2)))], []⟩ : St)) (by kernel_rfl) ⟨trivial, trivial, trivial⟩ ?_
      refine awl_nil ?_
      refine thenQ_n ?_
      refine aw_ret ?_
      refine blockQ_r ?_
      refine thenQ_r ?_
      refine blockQ_r ?_
      exact retQ_r (σ := Int) (R := (fun y => [toV1 (.int .u32) y])) (ob := (True ∧ True)) out2 (by kernel_rfl) ⟨trivial, trivial⟩ h
    · have h := h.2 hb
      refine aw_conv [.prune [1, 2, 5] [2]] (st' := (⟨33, [(1, [], .v (.c (.p .bool symbols))), (2, [], .v (.c (.ptr 2 0))), (5, [], .v (.c (.p (.int .u32) out2)))], [(2, [], .box [.p (.int .i64) g.1, .p (.int .i64) g.2.1, .p (.int .i64) g.2.2.1, .p (.sl (.pr (.int .i64) (.sl (.int .i64)))) g.2.2.2])]⟩ : St)) (by kernel_rfl) ?_
      refine aw_skip ?_
      refine blockQ_n ?_
      exact thenQ_n ⟨out2, rfl, h⟩
  · refine aw_block ?_
    refine aw_loop (σ := Int × Int) (fun s => (⟨33, [(1, [], .v (.c (.p .bool symbols))), (2, [], .v (.c (.ptr 2 0))), (5, [], .v (.c (.p (.int .u32) s.1))), (6, [], .v (.c (.p (.int .u32) out))), (11, [], .v (.c (.p (.sl (.pr (.int .i64) (.sl (.int .i64)))) g.2.2.2))), (12, [], .v (.c (.p (.int .i64) (g.2.2.2.length : Int)))), (13, [], .v (.c (.p (.int .i64) s.2)))], [(2, [], .box [.p (.int .i64) g.1, .p (.int .i64) g.2.1, .p (.int .i64) g.2.2.1, .p (.sl (.pr (.int .i64) (.sl (.int .i64)))) g.2.2.2])]⟩ : St)) (fun s X => VC74_l2 g symbols K out X1 s.1 s.2 X) (s0 := (out, (0 : Int))) (fun s X2 h => ?_) h
    obtain ⟨out2, v13⟩ := s
    have h : VC74_l2 g symbols K out X1 out2 v13 X2 := h
    unfold VC74_l2 at h
    refine aw_seq ?_
    refine aw_region ?_
    refine awl_runp 1 [1, 2, 5, 6, 11, 12, 13, 14] [2] (ob := (True ∧ True)) (st' := (⟨33, [(1, [], .v (.c (.p .bool symbols))), (2, [], .v (.c (.ptr 2 0))), (5, [], .v (.c (.p (.int .u32) out2))), (6, [], .v (.c (.p (.int .u32) out))), (11, [], .v (.c (.p (.sl (.pr (.int .i64) (.sl (.int .i64)))) g.2.2.2))), (12, [], .v (.c (.p (.int .i64) (g.2.2.2.length : Int)))), (13, [], .v (.c (.p (.int .i64) v13))), (14, [], .v (.c (.p .bool (decide (v13 < (g.2.2.2.length : Int))))))], [(2, [], .box [.p (.int .i64) g.1, .p (.int .i64) g.2.1, .p (.int .i64) g.2.2.1, .p (.sl (.pr (.int .i64) (.sl (.int .i64)))) g.2.2.2])]⟩ : St)) (by kernel_rfl) ⟨trivial, trivial⟩ ?_
    refine awl_nil ?_
    refine thenQ_n ?_
    refine aw_seq ?_
    refine aw_cond (b := (decide (v13 < (g.2.2.2.length : Int)))) (by kernel_rfl) (fun hb => ?_) (fun hb => ?_)
    · have h := h.1 hb
      refine aw_skip ?_
      refine thenQ_n ?_
      refine aw_seq ?_
      refine aw_block ?_
      refine aw_seq ?_
      refine aw_region ?_
      obtain ⟨o1, h⟩ := h
      refine awl_runp 4 [1, 2, 5, 6, 8, 11, 12, 13] [2, 8] (ob := (inIdx v13 g.2.2.2.length ∧ True ∧ True ∧ True ∧ True)) (st' := (⟨33, [(1, [], .v (.c (.p .bool symbols))), (2, [], .v (.c (.ptr 2 0))), (5, [], .v (.c (.p (.int .u32) out2))), (6, [], .v (.c (.p (.int .u32) out))), (8, [], .v (.c (.ptr 8 0))), (11, [], .v (.c (.p (.sl (.pr (.int .i64) (.sl (.int .i64)))) g.2.2.2))), (12, [], .v (.c (.p (.int .i64) (g.2.2.2.length : Int)))), (13, [], .v (.c (.p (.int .i64) v13)))], [(2, [], .box [.p (.int .i64) g.1, .p (.int .i64) g.2.1, .p (.int .i64) g.2.2.1, .p (.sl (.pr (.int .i64) (.sl (.int .i64)))) g.2.2.2]), (8, [], .box [.p (.int .i64) ((g.2.2.2.getD (v13).toNat ((0 : Int), ([] : (List Int)))).1), .p (.sl (.int .i64)) ((g.2.2.2.getD (v13).toNat ((0 : Int), ([] : (List Int)))).2)])]⟩ : St)) (by kernel_rfl) ⟨o1, trivial, trivial, trivial, trivial⟩ ?_
      refine awl_nil ?_
      refine thenQ_n ?_
      refine aw_seq ?_
      refine aw_region ?_
      refine awl_runp 5 [1, 2, 5, 6, 8, 11, 12, 13, 17, 19, 20, 21] [2, 8] (ob := (True ∧ True ∧ True ∧ True ∧ True ∧ True)) (st' := (⟨33, [(1, [], .v (.c (.p .bool symbols))), (2, [], .v (.c (.ptr 2 0))), (5, [], .v (.c (.p (.int .u32) out2))), (6, [], .v (.c (.p (.int .u32) out))), (8, [], .v (.c (.ptr 8 0))), (11, [], .v (.c (.p (.sl (.pr (.int .i64) (.sl (.int .i64)))) g.2.2.2))), (12, [], .v (.c (.p (.int .i64) (g.2.2.2.length : Int)))), (13, [], .v (.c (.p (.int .i64) v13))), (17, [], .v (.agg [.p (.int .i64) g.1, .p (.int .i64) g.2.1, .p (.int .i64) g.2.2.1, .p (.sl (.pr (.int .i64) (.sl (.int .i64)))) g.2.2.2])), (19, [], .v (.c (.p (.sl (.int .i64)) ((g.2.2.2.getD (v13).toNat ((0 : Int), ([] : (List Int)))).2)))), (20, [], .v (.c (.p (.int .u32) out2))), (21, [], .v (.c (.p .bool symbols)))], [(2, [], .box [.p (.int .i64) g.1, .p (.int .i64) g.2.1, .p (.int .i64) g.2.2.1, .p (.sl (.pr (.int .i64) (.sl (.int .i64)))) g.2.2.2]), (8, [], .box [.p (.int .i64) ((g.2.2.2.getD (v13).toNat ((0 : Int), ([] : (List Int)))).1), .p (.sl (.int .i64)) ((g.2.2.2.getD (v13).toNat ((0 : Int), ([] : (List Int)))).2)])]⟩ : St)) (by kernel_rfl) ⟨trivial, trivial, trivial, trivial, trivial, trivial⟩ ?_
      refine awl_callk (p := []) (l := [toV1 (.pr (.int .i64) (.pr (.int .i64) (.pr (.int .i64) (.sl (.pr (.int .i64) (.sl (.int .i64))))))) g, toV1 (.sl (.int .i64)) ((g.2.2.2.getD (v13).toNat ((0 : Int), ([] : (List Int)))).2), toV1 (.int .u32) out2, toV1 .bool symbols]) (cl := []) false [.d (.pr (.int .i64) (.pr (.int .i64) (.pr (.int .i64) (.sl (.pr (.int .i64) (.sl (.int .i64))))))), .d (.sl (.int .i64)), .d (.int .u32), .d .bool] [1, 2, 5, 6, 8, 11, 12, 13, 22] [2, 8] (fun (ret22v : Bool) => ((ret22v = true → (0 ≤ (g.2.2.2.getD (v13).toNat ((0 : Int), ([] : (List Int)))).1 ∧ VC74_k2 v13 X2 (bOr .u32 out2 (bShl .u32 (1 : Int) ((g.2.2.2.getD (v13).toNat ((0 : Int), ([] : (List Int)))).1))))) ∧ (ret22v = false → VC74_k2 v13 X2 out2))) (fun ret22v => [toV1 .bool ret22v]) (fun ret22v => (⟨33, [(1, [], .v (.c (.p .bool symbols))), (2, [], .v (.c (.ptr 2 0))), (5, [], .v (.c (.p (.int .u32) out2))), (6, [], .v (.c (.p (.int .u32) out))), (8, [], .v (.c (.ptr 8 0))), (11, [], .v (.c (.p (.sl (.pr (.int .i64) (.sl (.int .i64)))) g.2.2.2))), (12, [], .v (.c (.p (.int .i64) (g.2.2.2.length : Int)))), (13, [], .v (.c (.p (.int .i64) v13))), (22, [], .v (.c (.p .bool ret22v)))], [(2, [], .box [.p (.int .i64) g.1, .p (.int .i64) g.2.1, .p (.int .i64) g.2.2.1, .p (.sl (.pr (.int .i64) (.sl (.int .i64)))) g.2.2.2]), (8, [], .box [.p (.int .i64) ((g.2.2.2.getD (v13).toNat ((0 : Int), ([] : (List Int)))).1), .p (.sl (.int .i64)) ((g.2.2.2.getD (v13).toNat ((0 : Int), ([] : (List Int)))).2)])]⟩ : St)) (by kernel_rfl) rfl (by kernel_rfl) rfl (by kernel_rfl) Try.call104 (by kernel_rfl) (fun ret22v => by kernel_rfl) (fun e => by cases e) (fun hg => link104 g ((g.2.2.2.getD (v13).toNat ((0 : Int), ([] : (List Int)))).2) out2 symbols _ h) (fun hg => noF hg) (fun ret22v h => ?_)
      have h : ((ret22v = true → (0 ≤ (g.2.2.2.getD (v13).toNat ((0 : Int), ([] : (List Int)))).1 ∧ VC74_k2 v13 X2 (bOr .u32 out2 (bShl .u32 (1 : Int) ((g.2.2.2.getD (v13).toNat ((0 : Int), ([] : (List Int)))).1))))) ∧ (ret22v = false → VC74_k2 v13 X2 out2)) := h
      refine awl_nil ?_
      refine thenQ_n ?_
      refine withJoin (σ := Int) (fun s => (⟨33, [(1, [], .v (.c (.p .bool symbols))), (2, [], .v (.c (.ptr 2 0))), (5, [], .v (.c (.p (.int .u32) s))), (6, [], .v (.c (.p (.int .u32) out))), (11, [], .v (.c (.p (.sl (.pr (.int .i64) (.sl (.int .i64)))) g.2.2.2))), (12, [], .v (.c (.p (.int .i64) (g.2.2.2.length : Int)))), (13, [], .v (.c (.p (.int .i64) v13)))], [(2, [], .box [.p (.int .i64) g.1, .p (.int .i64) g.2.1, .p (.int .i64) g.2.2.1, .p (.sl (.pr (.int .i64) (.sl (.int .i64)))) g.2.2.2])]⟩ : St)) (fun s => VC74_k2 v13 X2 s) (fun out3 h => ?_) (fun rest2 => ?_)
      · have h : VC74_k2 v13 X2 out3 := h
        unfold VC74_k2 at h
        refine blockQ_n ?_
        refine thenQ_n ?_
        refine aw_region ?_
        obtain ⟨o1, h⟩ := h
        refine awl_runp 2 [1, 2, 5, 6, 11, 12, 13] [2] (ob := (InR (v13 + (1 : Int)) ∧ True ∧ True)) (st' := (⟨33, [(1, [], .v (.c (.p .bool symbols))), (2, [], .v (.c (.ptr 2 0))), (5, [], .v (.c (.p (.int .u32) out3))), (6, [], .v (.c (.p (.int .u32) out))), (11, [], .v (.c (.p (.sl (.pr (.int .i64) (.sl (.int .i64)))) g.2.2.2))), (12, [], .v (.c (.p (.int .i64) (g.2.2.2.length : Int)))), (13, [], .v (.c (.p (.int .i64) (v13 + (1 : Int)))))], [(2, [], .box [.p (.int .i64) g.1, .p (.int .i64) g.2.1, .p (.int .i64) g.2.2.1, .p (.sl (.pr (.int .i64) (.sl (.int .i64)))) g.2.2.2])]⟩ : St)) (by kernel_rfl) ⟨o1, trivial, trivial⟩ ?_
        refine awl_nil ?_
        exact thenQ_n ⟨(out3, (v13 + (1 : Int))), rfl, h⟩
      · refine aw_cond (b := ret22v) (by kernel_rfl) (fun hb => ?_) (fun hb => ?_)
        · have h := h.1 hb
          refine aw_region ?_
          obtain ⟨o1, h⟩ := h
          refine awl_runp 6 [1, 2, 5, 6, 11, 12, 13] [2] (ob := (True ∧ True ∧ True ∧ 0 ≤ (g.2.2.2.getD (v13).toNat ((0 : Int), ([] : (List Int)))).1 ∧ True ∧ True ∧ True)) (st' := (⟨33, [(1, [], .v (.c (.p .bool symbols))), (2, [], .v (.c (.ptr 2 0))), (5, [], .v (.c (.p (.int .u32) (bOr .u32 out2 (bShl .u32 (1 : Int) ((g.2.2.2.getD (v13).toNat ((0 : Int), ([] : (List Int)))).1)))))), (6, [], .v (.c (.p (.int .u32) out))), (11, [], .v (.c (.p (.sl (.pr (.int .i64) (.sl (.int .i64)))) g.2.2.2))), (12, [], .v (.c (.p (.int .i64) (g.2.2.2.length : Int)))), (13, [], .v (.c (.p (.int .i64) v13)))], [(2, [], .box [.p (.int .i64) g.1, .p (.int .i64) g.2.1, .p (.int .i64) g.2.2.1, .p (.sl (.pr (.int .i64) (.sl (.int .i64)))) g.2.2.2])]⟩ : St)) (by kernel_rfl) ⟨trivial, trivial, trivial, o1, trivial, trivial, trivial⟩ ?_
          refine awl_nil ?_
          exact rest2 (bOr .u32 out2 (bShl .u32 (1 : Int) ((g.2.2.2.getD (v13).toNat ((0 : Int), ([] : (List Int)))).1))) h
        · have h := h.2 hb
          refine aw_conv [.prune [1, 2, 5, 6, 11, 12, 13] [2]] (st' := (⟨33, [(1, [], .v (.c (.p .bool symbols))), (2, [], .v (.c (.ptr 2 0))), (5, [], .v (.c (.p (.int .u32) out2))), (6, [], .v (.c (.p (.int .u32) out))), (11, [], .v (.c (.p (.sl (.pr (.int .i64) (.sl (.int .i64)))) g.2.2.2))), (12, [], .v (.c (.p (.int .i64) (g.2.2.2.length : Int)))), (13, [], .v (.c (.p (.int .i64) v13)))], [(2, [], .box [.p (.int .i64) g.1, .p (.int .i64) g.2.1, .p (.int .i64) g.2.2.1, .p (.sl (.pr (.int .i64) (.sl (.int .i64)))) g.2.2.2])]⟩ : St)) (by kernel_rfl) ?_
          refine aw_skip ?_
          exact rest2 out2 h
    · have h := h.2 hb
      refine aw_conv [.prune [1, 2, 5, 6] [2]] (st' := (⟨33, [(1, [], .v (.c (.p .bool symbols))), (2, [], .v (.c (.ptr 2 0))), (5, [], .v (.c (.p (.int .u32) out2))), (6, [], .v (.c (.p (.int .u32) out)))], [(2, [], .box [.p (.int .i64) g.1, .p (.int .i64) g.2.1, .p (.int .i64) g.2.2.1, .p (.sl (.pr (.int .i64) (.sl (.int .i64)))) g.2.2.2])]⟩ : St)) (by kernel_rfl) ?_
      refine aw_exit ?_
      refine thenQ_x ?_
      refine thenQ_x ?_
      refine blockQ_hit ?_
      exact rest1 out2 h

-- coppicer/grammar.Productive
def VC40 (g : (Int × (Int × (Int × (List (Int × (List Int))))))) (K : Int → Prop) : Prop :=
  VC74 g true (fun (ret4v : Int) => K ret4v)

set_option maxHeartbeats 4000000 in
theorem link40 (g : (Int × (Int × (Int × (List (Int × (List Int))))))) (K : Int → Prop) (h : VC40 g K) : ACalls Try.prog 40 [toV1 (.pr (.int .i64) (.pr (.int .i64) (.pr (.int .i64) (.sl (.pr (.int .i64) (.sl (.int .i64))))))) g] (fun res => ∃ y, res = (fun y => [toV1 (.int .u32) y]) y ∧ K y) := by
  refine acalls_of_aw [(.int .u32)] [.t 2] Try.func40 rfl rfl rfl ?_
  unfold VC40 at h
  refine aw_seq ?_
  refine aw_region ?_
  refine awl_runp 2 [1] [1] (ob := (True ∧ True ∧ True)) (st' := (⟨5, [(1, [], .v (.c (.ptr 1 0)))], [(1, [], .box [.p (.int .i64) g.1, .p (.int .i64) g.2.1, .p (.int .i64) g.2.2.1, .p (.sl (.pr (.int .i64) (.sl (.int .i64)))) g.2.2.2])]⟩ : St)) (by kernel_rfl) ⟨trivial, trivial, trivial⟩ ?_
  refine awl_nil ?_
  refine thenQ_n ?_
  refine aw_seq ?_
  refine aw_region ?_
  refine awl_runp 1 [3] [] (ob := (True ∧ True)) (st' := (⟨5, [(3, [], .v (.agg [.p (.int .i64) g.1, .p (.int .i64) g.2.1, .p (.int .i64) g.2.2.1, .p (.sl (.pr (.int .i64) (.sl (.int .i64)))) g.2.2.2]))], []⟩ : St)) (by kernel_rfl) ⟨trivial, trivial⟩ ?_
  refine awl_callk (p := []) (l := [toV1 (.pr (.int .i64) (.pr (.int .i64) (.pr (.int .i64) (.sl (.pr (.int .i64) (.sl (.int .i64))))))) g, toV1 .bool true]) (cl := []) false [.d (.pr (.int .i64) (.pr (.int .i64) (.pr (.int .i64) (.sl (.pr (.int .i64) (.sl (.int .i64))))))), .d .bool] [4] [] (fun (ret4v : Int) => K ret4v) (fun ret4v => [toV1 (.int .u32) ret4v]) (fun ret4v => (⟨5, [(4, [], .v (.c (.p (.int .u32) ret4v)))], []⟩ : St)) (by kernel_rfl) rfl (by kernel_rfl) rfl (by kernel_rfl) Try.call74 (by kernel_rfl) (fun ret4v => by kernel_rfl) (fun e => by cases e) (fun hg => link74 g true _ h) (fun hg => noF hg) (fun ret4v h => ?_)
  have h : K ret4v := h
  refine awl_runp 1 [2] [] (ob := (True ∧ True)) (st' := (⟨5, [(2, [], .v (.c (.p (.int .u32) ret4v)))], []⟩ : St)) (by kernel_rfl) ⟨trivial, trivial⟩ ?_
  refine awl_nil ?_
  refine thenQ_n ?_
  refine aw_ret ?_
  exact retQ_r (σ := Int) (R := (fun y => [toV1 (.int .u32) y])) (ob := (True ∧ True)) ret4v (by kernel_rfl) ⟨trivial, trivial⟩ h

-- coppicer/grammar.Makes
def VC15 (g : (Int × (Int × (Int × (List (Int × (List Int))))))) (K : Int × Int → Prop) : Prop :=
  VC39 g (fun (x : (Int × (Int × (Int × (List (Int × (List Int))))))) (K : Int → Prop) => VC40 x K) (fun (ret5v : Int × Int) => K (ret5v.1, ret5v.2))

set_option maxHeartbeats 4000000 in
theorem link15 (g : (Int × (Int × (Int × (List (Int × (List Int))))))) (K : Int × Int → Prop) (h : VC15 g K) : ACalls Try.prog 15 [toV1 (.pr (.int .i64) (.pr (.int .i64) (.pr (.int .i64) (.sl (.pr (.int .i64) (.sl (.int .i64))))))) g] (fun res => ∃ y, res = (fun y => [toV1 (.int .u32) y.1, toV1 (.int .i64) y.2]) y ∧ K y) := by
  refine acalls_of_aw [(.int .u32), (.int .i64)] [.t 2, .t 3] Try.func15 rfl rfl rfl ?_
  unfold VC15 at h
  refine aw_seq ?_
  refine aw_region ?_
  refine awl_runp 3 [1] [1] (ob := (True ∧ True ∧ True ∧ True)) (st' := (⟨8, [(1, [], .v (.c (.ptr 1 0)))], [(1, [], .box [.p (.int .i64) g.1, .p (.int .i64) g.2.1, .p (.int .i64) g.2.2.1, .p (.sl (.pr (.int .i64) (.sl (.int .i64)))) g.2.2.2])]⟩ : St)) (by kernel_rfl) ⟨trivial, trivial, trivial, trivial⟩ ?_
  refine awl_nil ?_
  refine thenQ_n ?_
  refine aw_seq ?_
  refine aw_region ?_
  refine awl_runp 1 [4] [] (ob := (True ∧ True)) (st' := (⟨8, [(4, [], .v (.agg [.p (.int .i64) g.1, .p (.int .i64) g.2.1, .p (.int .i64) g.2.2.1, .p (.sl (.pr (.int .i64) (.sl (.int .i64)))) g.2.2.2]))], []⟩ : St)) (by kernel_rfl) ⟨trivial, trivial⟩ ?_
  refine awl_callk (p := []) (l := [toV1 (.pr (.int .i64) (.pr (.int .i64) (.pr (.int .i64) (.sl (.pr (.int .i64) (.sl (.int .i64))))))) g, .c (.fn 40 [])]) (cl := []) false [.d (.pr (.int .i64) (.pr (.int .i64) (.pr (.int .i64) (.sl (.pr (.int .i64) (.sl (.int .i64))))))), .fn] [5] [] (fun (ret5v : Int × Int) => K (ret5v.1, ret5v.2)) (fun ret5v => [toV1 (.int .u32) ret5v.1, toV1 (.int .i64) ret5v.2]) (fun ret5v => (⟨8, [(5, [], .tup [.c (.p (.int .u32) ret5v.1), .c (.p (.int .i64) ret5v.2)])], []⟩ : St)) (by kernel_rfl) rfl (by kernel_rfl) rfl (by kernel_rfl) Try.call39 (by kernel_rfl) (fun ret5v => by kernel_rfl) (fun e => by cases e) (fun hg => link39 g 40 [] (fun (x : (Int × (Int × (Int × (List (Int × (List Int))))))) (K : Int → Prop) => VC40 x K) ⟨Try.call40, fun x K h => link40 x K h⟩ _ h) (fun hg => noF hg) (fun ret5v h => ?_)
  have h : K (ret5v.1, ret5v.2) := h
  refine awl_runp 4 [2, 3] [] (ob := (True ∧ True ∧ True ∧ True ∧ True)) (st' := (⟨8, [(2, [], .v (.c (.p (.int .u32) ret5v.1))), (3, [], .v (.c (.p (.int .i64) ret5v.2)))], []⟩ : St)) (by kernel_rfl) ⟨trivial, trivial, trivial, trivial, trivial⟩ ?_
  refine awl_nil ?_
  refine thenQ_n ?_
  refine aw_ret ?_
  exact retQ_r (σ := Int × Int) (R := (fun y => [toV1 (.int .u32) y.1, toV1 (.int .i64) y.2])) (ob := (True ∧ True ∧ True)) (ret5v.1, ret5v.2) (by kernel_rfl) ⟨trivial, trivial, trivial⟩ h

-- coppicer/grammar.Nullable
def VC41 (g : (Int × (Int × (Int × (List (Int × (List Int))))))) (K : Int → Prop) : Prop :=
  VC74 g false (fun (ret4v : Int) => K ret4v)

set_option maxHeartbeats 4000000 in
theorem link41 (g : (Int × (Int × (Int × (List (Int × (List Int))))))) (K : Int → Prop) (h : VC41 g K) : ACalls Try.prog 41 [toV1 (.pr (.int .i64) (.pr (.int .i64) (.pr (.int .i64) (.sl (.pr (.int .i64) (.sl (.int .i64))))))) g] (fun res => ∃ y, res = (fun y => [toV1 (.int .u32) y]) y ∧ K y) := by
  refine acalls_of_aw [(.int .u32)] [.t 2] Try.func41 rfl rfl rfl ?_
  unfold VC41 at h
  refine aw_seq ?_
  refine aw_region ?_
  refine awl_runp 2 [1] [1] (ob := (True ∧ True ∧ True)) (st' := (⟨5, [(1, [], .v (.c (.ptr 1 0)))], [(1, [], .box [.p (.int .i64) g.1, .p (.int .i64) g.2.1, .p (.int .i64) g.2.2.1, .p (.sl (.pr (.int .i64) (.sl (.int .i64)))) g.2.2.2])]⟩ : St)) (by kernel_rfl) ⟨trivial, trivial, trivial⟩ ?_
  refine awl_nil ?_
  refine thenQ_n ?_
  refine aw_seq ?_
  refine aw_region ?_
  refine awl_runp 1 [3] [] (ob := (True ∧ True)) (st' := (⟨5, [(3, [], .v (.agg [.p (.int .i64) g.1, .p (.int .i64) g.2.1, .p (.int .i64) g.2.2.1, .p (.sl (.pr (.int .i64) (.sl (.int .i64)))) g.2.2.2]))], []⟩ : St)) (by kernel_rfl) ⟨trivial, trivial⟩ ?_
  refine awl_callk (p := []) (l := [toV1 (.pr (.int .i64) (.pr (.int .i64) (.pr (.int .i64) (.sl (.pr (.int .i64) (.sl (.int .i64))))))) g, toV1 .bool false]) (cl := []) false [.d (.pr (.int .i64) (.pr (.int .i64) (.pr (.int .i64) (.sl (.pr (.int .i64) (.sl (.int .i64))))))), .d .bool] [4] [] (fun (ret4v : Int) => K ret4v) (fun ret4v => [toV1 (.int .u32) ret4v]) (fun ret4v => (⟨5, [(4, [], .v (.c (.p (.int .u32) ret4v)))], []⟩ : St)) (by kernel_rfl) rfl (by kernel_rfl) rfl (by kernel_rfl) Try.call74 (by kernel_rfl) (fun ret4v => by kernel_rfl) (fun e => by cases e) (fun hg => link74 g false _ h) (fun hg => noF hg) (fun ret4v h => ?_)
  have h : K ret4v := h
  refine awl_runp 1 [2] [] (ob := (True ∧ True)) (st' := (⟨5, [(2, [], .v (.c (.p (.int .u32) ret4v)))], []⟩ : St)) (by kernel_rfl) ⟨trivial, trivial⟩ ?_
  refine awl_nil ?_
  refine thenQ_n ?_
  refine aw_ret ?_
  exact retQ_r (σ := Int) (R := (fun y => [toV1 (.int .u32) y])) (ob := (True ∧ True)) ret4v (by kernel_rfl) ⟨trivial, trivial⟩ h

-- coppicer/grammar.Void
def VC16 (g : (Int × (Int × (Int × (List (Int × (List Int))))))) (K : Int × Int → Prop) : Prop :=
  VC39 g (fun (x : (Int × (Int × (Int × (List (Int × (List Int))))))) (K : Int → Prop) => VC41 x K) (fun (ret5v : Int × Int) => K (ret5v.1, ret5v.2))

set_option maxHeartbeats 4000000 in
theorem link16 (g : (Int × (Int × (Int × (List (Int × (List Int))))))) (K : Int × Int → Prop) (h : VC16 g K) : ACalls Try.prog 16 [toV1 (.pr (.int .i64) (.pr (.int .i64) (.pr (.int .i64) (.sl (.pr (.int .i64) (.sl (.int .i64))))))) g] (fun res => ∃ y, res = (fun y => [toV1 (.int .u32) y.1, toV1 (.int .i64) y.2]) y ∧ K y) := by
  refine acalls_of_aw [(.int .u32), (.int .i64)] [.t 2, .t 3] Try.func16 rfl rfl rfl ?_
  unfold VC16 at h
  refine aw_seq ?_
  refine aw_region ?_
  refine awl_runp 3 [1] [1] (ob := (True ∧ True ∧ True ∧ True)) (st' := (⟨8, [(1, [], .v (.c (.ptr 1 0)))], [(1, [], .box [.p (.int .i64) g.1, .p (.int .i64) g.2.1, .p (.int .i64) g.2.2.1, .p (.sl (.pr (.int .i64) (.sl (.int .i64)))) g.2.2.2])]⟩ : St)) (by kernel_rfl) ⟨trivial, trivial, trivial, trivial⟩ ?_
  refine awl_nil ?_
  refine thenQ_n ?_
  refine aw_seq ?_
  refine aw_region ?_
  refine awl_runp 1 [4] [] (ob := (True ∧ True)) (st' := (⟨8, [(4, [], .v (.agg [.p (.int .i64) g.1, .p (.int .i64) g.2.1, .p (.int .i64) g.2.2.1, .p (.sl (.pr (.int .i64) (.sl (.int .i64)))) g.2.2.2]))], []⟩ : St)) (by kernel_rfl) ⟨trivial, trivial⟩ ?_
  refine awl_callk (p := []) (l := [toV1 (.pr (.int .i64) (.pr (.int .i64) (.pr (.int .i64) (.sl (.pr (.int .i64) (.sl (.int .i64))))))) g, .c (.fn 41 [])]) (cl := []) false [.d (.pr (.int .i64) (.pr (.int .i64) (.pr (.int .i64) (.sl (.pr (.int .i64) (.sl (.int .i64))))))), .fn] [5] [] (fun (ret5v : Int × Int) => K (ret5v.1, ret5v.2)) (fun ret5v => [toV1 (.int .u32) ret5v.1, toV1 (.int .i64) ret5v.2]) (fun ret5v => (⟨8, [(5, [], .tup [.c (.p (.int .u32) ret5v.1), .c (.p (.int .i64) ret5v.2)])], []⟩ : St)) (by kernel_rfl) rfl (by kernel_rfl) rfl (by kernel_rfl) Try.call39 (by kernel_rfl) (fun ret5v => by kernel_rfl) (fun e => by cases e) (fun hg => link39 g 41 [] (fun (x : (Int × (Int × (Int × (List (Int × (List Int))))))) (K : Int → Prop) => VC41 x K) ⟨Try.call41, fun x K h => link41 x K h⟩ _ h) (fun hg => noF hg) (fun ret5v h => ?_)
  have h : K (ret5v.1, ret5v.2) := h
  refine awl_runp 4 [2, 3] [] (ob := (True ∧ True ∧ True ∧ True ∧ True)) (st' := (⟨8, [(2, [], .v (.c (.p (.int .u32) ret5v.1))), (3, [], .v (.c (.p (.int .i64) ret5v.2)))], []⟩ : St)) (by kernel_rfl) ⟨trivial, trivial, trivial, trivial, trivial⟩ ?_
  refine awl_nil ?_
  refine thenQ_n ?_
  refine aw_ret ?_
  exact retQ_r (σ := Int × Int) (R := (fun y => [toV1 (.int .u32) y.1, toV1 (.int .i64) y.2])) (ob := (True ∧ True ∧ True)) (ret5v.1, ret5v.2) (by kernel_rfl) ⟨trivial, trivial, trivial⟩ h

-- coppicer/grammar.Reachable
def VC42_k1 (K : Int → Prop) (out : Int) (X1 : Int → Prop) (out2 : Int) : Prop :=
  (((decide (out2 = out)) = true → K out2) ∧ ((decide (out2 = out)) = false → X1 out2))

def VC42_k2 (v16 : Int) (X2 : Int × Int → Prop) (out3 : Int) : Prop :=
  (InR (v16 + (1 : Int)) ∧ X2 (out3, (v16 + (1 : Int))))

def VC42_k3 (v23 : Int) (X3 : Int × Int → Prop) (out4 : Int) : Prop :=
  (InR (v23 + (1 : Int)) ∧ X3 (out4, (v23 + (1 : Int))))

def VC42_l3 (g : (Int × (Int × (Int × (List (Int × (List Int))))))) (v16 : Int) (X2 : Int × Int → Prop) (out3 : Int) (v23 : Int) (X3 : Int × Int → Prop) : Prop :=
  (((decide (v23 < (((g.2.2.2.getD (v16).toNat ((0 : Int), ([] : (List Int)))).2).length : Int))) = true → (inIdx v23 ((g.2.2.2.getD (v16).toNat ((0 : Int), ([] : (List Int)))).2).length ∧ gcall (α := Bool) (decide (g.1 ≤ (((g.2.2.2.getD (v16).toNat ((0 : Int), ([] : (List Int)))).2).getD (v23).toNat (0 : Int)))) (VC47 out3 ((g.2.2.2.getD (v16).toNat ((0 : Int), ([] : (List Int)))).1)) false (fun (ret35v : Bool) => ((((decide (g.1 ≤ (((g.2.2.2.getD (v16).toNat ((0 : Int), ([] : (List Int)))).2).getD (v23).toNat (0 : Int)))) && ret35v) = true → (InR ((((g.2.2.2.getD (v16).toNat ((0 : Int), ([] : (List Int)))).2).getD (v23).toNat (0 : Int)) - g.1) ∧ 0 ≤ ((((g.2.2.2.getD (v16).toNat ((0 : Int), ([] : (List Int)))).2).getD (v23).toNat (0 : Int)) - g.1) ∧ VC42_k3 v23 X3 (bOr .u32 out3 (bShl .u32 (1 : Int) ((((g.2.2.2.getD (v16).toNat ((0 : Int), ([] : (List Int)))).2).getD (v23).toNat (0 : Int)) - g.1))))) ∧ (((decide (g.1 ≤ (((g.2.2.2.getD (v16).toNat ((0 : Int), ([] : (List Int)))).2).getD (v23).toNat (0 : Int)))) && ret35v) = false → VC42_k3 v23 X3 out3))))) ∧ ((decide (v23 < (((g.2.2.2.getD (v16).toNat ((0 : Int), ([] : (List Int)))).2).length : Int))) = false → VC42_k2 v16 X2 out3))

def VC42_l2 (g : (Int × (Int × (Int × (List (Int × (List Int))))))) (K : Int → Prop) (out : Int) (X1 : Int → Prop) (out2 : Int) (v16 : Int) (X2 : Int × Int → Prop) : Prop :=
  (((decide (v16 < (g.2.2.2.length : Int))) = true → (inIdx v16 g.2.2.2.length ∧ Loop (σ := Int × Int) (fun s X => VC42_l3 g v16 X2 s.1 s.2 X) (out2, (0 : Int)))) ∧ ((decide (v16 < (g.2.2.2.length : Int))) = false → VC42_k1 K out X1 out2))

def VC42_l1 (g : (Int × (Int × (Int × (List (Int × (List Int))))))) (K : Int → Prop) (out : Int) (X1 : Int → Prop) : Prop :=
  Loop (σ := Int × Int) (fun s X => VC42_l2 g K out X1 s.1 s.2 X) (out, (0 : Int))

def VC42 (g : (Int × (Int × (Int × (List (Int × (List Int))))))) (K : Int → Prop) : Prop :=
  (0 ≤ g.2.2.1 ∧ Loop (σ := Int) (fun s X => VC42_l1 g K s X) (bShl .u32 (1 : Int) g.2.2.1))

set_option maxHeartbeats 4000000 in
theorem link42 (g : (Int × (Int × (Int × (List (Int × (List Int))))))) (K : Int → Prop) (h : VC42 g K) : ACalls Try.prog 42 [toV1 (.pr (.int .i64) (.pr (.int .i64) (.pr (.int .i64) (.sl (.pr (.int .i64) (.sl (.int .i64))))))) g] (fun res => ∃ y, res = (fun y => [toV1 (.int .u32) y]) y ∧ K y) := by
  refine acalls_of_aw [(.int .u32)] [.t 2] Try.func42 rfl rfl rfl ?_
  unfold VC42 at h
  refine aw_seq ?_
  refine aw_region ?_
  refine awl_runp 2 [1] [1] (ob := (True ∧ True ∧ True)) (st' := (⟨50, [(1, [], .v (.c (.ptr 1 0)))], [(1, [], .box [.p (.int .i64) g.1, .p (.int .i64) g.2.1, .p (.int .i64) g.2.2.1, .p (.sl (.pr (.int .i64) (.sl (.int .i64)))) g.2.2.2])]⟩ : St)) (by kernel_rfl) ⟨trivial, trivial, trivial⟩ ?_
  refine awl_nil ?_
  refine thenQ_n ?_
  refine aw_seq ?_
  refine aw_region ?_
  obtain ⟨o1, h⟩ := h
  refine awl_runp 4 [1, 3] [1] (ob := (True ∧ True ∧ 0 ≤ g.2.2.1 ∧ True ∧ True)) (st' := (⟨50, [(1, [], .v (.c (.ptr 1 0))), (3, [], .v (.c (.p (.int .u32) (bShl .u32 (1 : Int) g.2.2.1))))], [(1, [], .box [.p (.int .i64) g.1, .p (.int .i64) g.2.1, .p (.int .i64) g.2.2.1, .p (.sl (.pr (.int .i64) (.sl (.int .i64)))) g.2.2.2])]⟩ : St)) (by kernel_rfl) ⟨trivial, trivial, o1, trivial, trivial⟩ ?_
  refine awl_nil ?_
  refine thenQ_n ?_
  refine aw_block ?_
  refine aw_loop (σ := Int) (fun s => (⟨50, [(1, [], .v (.c (.ptr 1 0))), (3, [], .v (.c (.p (.int .u32) s)))], [(1, [], .box [.p (.int .i64) g.1, .p (.int .i64) g.2.1, .p (.int .i64) g.2.2.1, .p (.sl (.pr (.int .i64) (.sl (.int .i64)))) g.2.2.2])]⟩ : St)) (fun s X => VC42_l1 g K s X) (s0 := (bShl .u32 (1 : Int) g.2.2.1)) (fun out X1 h => ?_) h
  have h : VC42_l1 g K out X1 := h
  unfold VC42_l1 at h
  refine aw_block ?_
  refine aw_seq ?_
  refine aw_region ?_
  refine awl_runp 2 [1, 3, 4] [1] (ob := (True ∧ True ∧ True)) (st' := (⟨50, [(1, [], .v (.c (.ptr 1 0))), (3, [], .v (.c (.p (.int .u32) out))), (4, [], .v (.c (.p (.int .u32) out)))], [(1, [], .box [.p (.int .i64) g.1, .p (.int .i64) g.2.1, .p (.int .i64) g.2.2.1, .p (.sl (.pr (.int .i64) (.sl (.int .i64)))) g.2.2.2])]⟩ : St)) (by kernel_rfl) ⟨trivial, trivial, trivial⟩ ?_
  refine awl_nil ?_
  refine thenQ_n ?_
  refine aw_seq ?_
  refine aw_seq ?_
  refine aw_region ?_
  refine awl_runp 4 [1, 3, 4, 14, 15, 16] [1] (ob := (True ∧ True ∧ True ∧ True ∧ True)) (st' := (⟨50, [(1, [], .v (.c (.ptr 1 0))), (3, [], .v (.c (.p (.int .u32) out))), (4, [], .v (.c (.p (.int .u32) out))), (14, [], .v (.c (.p (.sl (.pr (.int .i64) (.sl (.int .i64)))) g.2.2.2))), (15, [], .v (.c (.p (.int .i64) (g.2.2.2.length : Int)))), (16, [], .v (.c (.p (.int .i64) (0 : Int))))], [(1, [], .box [.p (.int .i64) g.1, .p (.int .i64) g.2.1, .p (.int .i64) g.2.2.1, .p (.sl (.pr (.int .i64) (.sl (.int .i64)))) g.2.2.2])]⟩ : St)) (by kernel_rfl) ⟨trivial, trivial, trivial, trivial, trivial⟩ ?_
  refine awl_nil ?_
  refine thenQ_n ?_
  refine withJoin (σ := Int) (fun s => (⟨50, [(1, [], .v (.c (.ptr 1 0))), (3, [], .v (.c (.p (.int .u32) s))), (4, [], .v (.c (.p (.int .u32) out)))], [(1, [], .box [.p (.int .i64) g.1, .p (.int .i64) g.2.1, .p (.int .i64) g.2.2.1, .p (.sl (.pr (.int .i64) (.sl (.int .i64)))) g.2.2.2])]⟩ : St)) (fun s => VC42_k1 K out X1 s) (fun out2 h => ?_) (fun rest1 => ?_)
  · have h : VC42_k1 K out X1 out2 := h
    unfold VC42_k1 at h
    refine thenQ_n ?_
    refine aw_seq ?_
    refine aw_region ?_
    refine awl_runp 3 [1, 3, 48] [1] (ob := (True ∧ True ∧ True ∧ True)) (st' := (⟨50, [(1, [], .v (.c (.ptr 1 0))), (3, [], .v (.c (.p (.int .u32) out2))), (48, [], .v (.c (.p .bool (decide (out2 = out)))))], [(1, [], .box [.p (.int .i64) g.1, .p (.int .i64) g.2.1, .p (.int .i64) g.2.2.1, .p (.sl (.pr (.int .i64) (.sl (.int .i64)))) g.2.2.2])]⟩ : St)) (by kernel_rfl) ⟨trivial, trivial, trivial, trivial⟩ ?_
    refine awl_nil ?_
    refine thenQ_n ?_
    refine aw_cond (b := (decide (out2 = out))) (by kernel_rfl) (fun hb => ?_) (fun hb => ?_)
    · have h := h.1 hb
      refine aw_seq ?_
      refine aw_region ?_
      refine awl_runp 2 [2] [] (ob := (True ∧ True ∧ True)) (st' := (⟨50, [(2, [], .v (.c (.p (.int .u32) out2)))], []⟩ : St)) (by kernel_rfl) ⟨trivial, trivial, trivial⟩ ?_
      refine awl_nil ?_
      refine thenQ_n ?_
      refine aw_ret ?_
      refine blockQ_r ?_
      refine thenQ_r ?_
      refine blockQ_r ?_
      exact retQ_r (σ := Int) (R := (fun y => [toV1 (.int .u32) y])) (ob := (True ∧ True)) out2 (by kernel_rfl) ⟨trivial, trivial⟩ h
    · have h := h.2 hb
      refine aw_conv [.prune [1, 3] [1]] (st' := (⟨50, [(1, [], .v (.c (.ptr 1 0))), (3, [], .v (.c (.p (.int .u32) out2)))], [(1, [], .box [.p (.int .i64) g.1, .p (.int .i64) g.2.1, .p (.int .i64) g.2.2.1, .p (.sl (.pr (.int .i64) (.sl (.int .i64)))) g.2.2.2])]⟩ : St)) (by kernel_rfl) ?_
      refine aw_skip ?_
      refine blockQ_n ?_
      exact thenQ_n ⟨out2, rfl, h⟩
  · refine aw_block ?_
    refine aw_loop (σ := Int × Int) (fun s => (⟨50, [(1, [], .v (.c (.ptr 1 0))), (3, [], .v (.c (.p (.int .u32) s.1))), (4, [], .v (.c (.p (.int .u32) out))), (14, [], .v (.c (.p (.sl (.pr (.int .i64) (.sl (.int .i64)))) g.2.2.2))), (15, [], .v (.c (.p (.int .i64) (g.2.2.2.length : Int)))), (16, [], .v (.c (.p (.int .i64) s.2)))], [(1, [], .box [.p (.int .i64) g.1, .p (.int .i64) g.2.1, .p (.int .i64) g.2.2.1, .p (.sl (.pr (.int .i64) (.sl (.int .i64)))) g.2.2.2])]⟩ : St)) (fun s X => VC42_l2 g K out X1 s.1 s.2 X) (s0 := (out, (0 : Int))) (fun s X2 h => ?_) h
    obtain ⟨out2, v16⟩ := s
    have h : VC42_l2 g K out X1 out2 v16 X2 := h
    unfold VC42_l2 at h
    refine aw_seq ?_
    refine aw_region ?_
    refine awl_runp 1 [1, 3, 4, 14, 15, 16, 17] [1] (ob := (True ∧ True)) (st' := (⟨50, [(1, [], .v (.c (.ptr 1 0))), (3, [], .v (.c (.p (.int .u32) out2))), (4, [], .v (.c (.p (.int .u32) out))), (14, [], .v (.c (.p (.sl (.pr (.int .i64) (.sl (.int .i64)))) g.2.2.2))), (15, [], .v (.c (.p (.int .i64) (g.2.2.2.length : Int)))), (16, [], .v (.c (.p (.int .i64) v16))), (17, [], .v (.c (.p .bool (decide (v16 < (g.2.2.2.length : Int))))))], [(1, [], .box [.p (.int .i64) g.1, .p (.int .i64) g.2.1, .p (.int .i64) g.2.2.1, .p (.sl (.pr (.int .i64) (.sl (.int .i64)))) g.2.2.2])]⟩ : St)) (by kernel_rfl) ⟨trivial, trivial⟩ ?_
    refine awl_nil ?_
    refine thenQ_n ?_
    refine aw_seq ?_
    refine aw_cond (b := (decide (v16 < (g.2.2.2.length : Int)))) (by kernel_rfl) (fun hb => ?_) (fun hb => ?_)
    · have h := h.1 hb
      refine aw_skip ?_
      refine thenQ_n ?_
      refine aw_seq ?_
      refine aw_block ?_
      refine aw_seq ?_
      refine aw_region ?_
      obtain ⟨o1, h⟩ := h
      refine awl_runp 4 [1, 3, 4, 6, 14, 15, 16] [1, 6] (ob := (inIdx v16 g.2.2.2.length ∧ True ∧ True ∧ True ∧ True)) (st' := (⟨50, [(1, [], .v (.c (.ptr 1 0))), (3, [], .v (.c (.p (.int .u32) out2))), (4, [], .v (.c (.p (.int .u32) out))), (6, [], .v (.c (.ptr 6 0))), (14, [], .v (.c (.p (.sl (.pr (.int .i64) (.sl (.int .i64)))) g.2.2.2))), (15, [], .v (.c (.p (.int .i64) (g.2.2.2.length : Int)))), (16, [], .v (.c (.p (.int .i64) v16)))], [(1, [], .box [.p (.int .i64) g.1, .p (.int .i64) g.2.1, .p (.int .i64) g.2.2.1, .p (.sl (.pr (.int .i64) (.sl (.int .i64)))) g.2.2.2]), (6, [], .box [.p (.int .i64) ((g.2.2.2.getD (v16).toNat ((0 : Int), ([] : (List Int)))).1), .p (.sl (.int .i64)) ((g.2.2.2.getD (v16).toNat ((0 : Int), ([] : (List Int)))).2)])]⟩ : St)) (by kernel_rfl) ⟨o1, trivial, trivial, trivial, trivial⟩ ?_
      refine awl_nil ?_
      refine thenQ_n ?_
      refine aw_seq ?_
      refine aw_region ?_
      refine awl_runp 4 [1, 3, 4, 6, 14, 15, 16, 21, 22, 23] [1, 6] (ob := (True ∧ True ∧ True ∧ True ∧ True)) (st' := (⟨50, [(1, [], .v (.c (.ptr 1 0))), (3, [], .v (.c (.p (.int .u32) out2))), (4, [], .v (.c (.p (.int .u32) out))), (6, [], .v (.c (.ptr 6 0))), (14, [], .v (.c (.p (.sl (.pr (.int .i64) (.sl (.int .i64)))) g.2.2.2))), (15, [], .v (.c (.p (.int .i64) (g.2.2.2.length : Int)))), (16, [], .v (.c (.p (.int .i64) v16))), (21, [], .v (.c (.p (.sl (.int .i64)) ((g.2.2.2.getD (v16).toNat ((0 : Int), ([] : (List Int)))).2)))), (22, [], .v (.c (.p (.int .i64) (((g.2.2.2.getD (v16).toNat ((0 : Int), ([] : (List Int)))).2).length : Int)))), (23, [], .v (.c (.p (.int .i64) (0 : Int))))], [(1, [], .box [.p (.int .i64) g.1, .p (.int .i64) g.2.1, .p (.int .i64) g.2.2.1, .p (.sl (.pr (.int .i64) (.sl (.int .i64)))) g.2.2.2]), (6, [], .box [.p (.int .i64) ((g.2.2.2.getD (v16).toNat ((0 : Int), ([] : (List Int)))).1), .p (.sl (.int .i64)) ((g.2.2.2.getD (v16).toNat ((0 : Int), ([] : (List Int)))).2)])]⟩ : St)) (by kernel_rfl) ⟨trivial, trivial, trivial, trivial, trivial⟩ ?_
      refine awl_nil ?_
      refine thenQ_n ?_
      refine withJoin (σ := Int) (fun s => (⟨50, [(1, [], .v (.c (.ptr 1 0))), (3, [], .v (.c (.p (.int .u32) s))), (4, [], .v (.c (.p (.int .u32) out))), (14, [], .v (.c (.p (.sl (.pr (.int .i64) (.sl (.int .i64)))) g.2.2.2))), (15, [], .v (.c (.p (.int .i64) (g.2.2.2.length : Int)))), (16, [], .v (.c (.p (.int .i64) v16)))], [(1, [], .box [.p (.int .i64) g.1, .p (.int .i64) g.2.1, .p (.int .i64) g.2.2.1, .p (.sl (.pr (.int .i64) (.sl (.int .i64)))) g.2.2.2])]⟩ : St)) (fun s => VC42_k2 v16 X2 s) (fun out3 h => ?_) (fun rest2 => ?_)
      · have h : VC42_k2 v16 X2 out3 := h
        unfold VC42_k2 at h
        refine blockQ_n ?_
        refine thenQ_n ?_
        refine aw_region ?_
        obtain ⟨o1, h⟩ := h
        refine awl_runp 2 [1, 3, 4, 14, 15, 16] [1] (ob := (InR (v16 + (1 : Int)) ∧ True ∧ True)) (st' := (⟨50, [(1, [], .v (.c (.ptr 1 0))), (3, [], .v (.c (.p (.int .u32) out3))), (4, [], .v (.c (.p (.int .u32) out))), (14, [], .v (.c (.p (.sl (.pr (.int .i64) (.sl (.int .i64)))) g.2.2.2))), (15, [], .v (.c (.p (.int .i64) (g.2.2.2.length : Int)))), (16, [], .v (.c (.p (.int .i64) (v16 + (1 : Int)))))], [(1, [], .box [.p (.int .i64) g.1, .p (.int .i64) g.2.1, .p (.int .i64) g.2.2.1, .p (.sl (.pr (.int .i64) (.sl (.int .i64)))) g.2.2.2])]⟩ : St)) (by kernel_rfl) ⟨o1, trivial, trivial⟩ ?_
        refine awl_nil ?_
        exact thenQ_n ⟨(out3, (v16 + (1 : Int))), rfl, h⟩
      · refine aw_block ?_
        refine aw_loop (σ := Int × Int) (fun s => (⟨50, [(1, [], .v (.c (.ptr 1 0))), (3, [], .v (.c (.p (.int .u32) s.1))), (4, [], .v (.c (.p (.int .u32) out))), (6, [], .v (.c (.ptr 6 0))), (14, [], .v (.c (.p (.sl (.pr (.int .i64) (.sl (.int .i64)))) g.2.2.2))), (15, [], .v (.c (.p (.int .i64) (g.2.2.2.length : Int)))), (16, [], .v (.c (.p (.int .i64) v16))), (21, [], .v (.c (.p (.sl (.int .i64)) ((g.2.2.2.getD (v16).toNat ((0 : Int), ([] : (List Int)))).2)))), (22, [], .v (.c (.p (.int .i64) (((g.2.2.2.getD (v16).toNat ((0 : Int), ([] : (List Int)))).2).length : Int)))), (23, [], .v (.c (.p (.int .i64) s.2)))], [(1, [], .box [.p (.int .i64) g.1, .p (.int .i64) g.2.1, .p (.int .i64) g.2.2.1, .p (.sl (.pr (.int .i64) (.sl (.int .i64)))) g.2.2.2]), (6, [], .box [.p (.int .i64) ((g.2.2.2.getD (v16).toNat ((0 : Int), ([] : (List Int)))).1), .p (.sl (.int .i64)) ((g.2.2.2.getD (v16).toNat ((0 : Int), ([] : (List Int)))).2)])]⟩ : St)) (fun s X => VC42_l3 g v16 X2 s.1 s.2 X) (s0 := (out2, (0 : Int))) (fun s X3 h => ?_) h
        obtain ⟨out3, v23⟩ := s
        have h : VC42_l3 g v16 X2 out3 v23 X3 := h
        unfold VC42_l3 at h
        refine aw_seq ?_
        refine aw_region ?_
        refine awl_runp 1 [1, 3, 4, 6, 14, 15, 16, 21, 22, 23, 24] [1, 6] (ob := (True ∧ True)) (st' := (⟨50, [(1, [], .v (.c (.ptr 1 0))), (3, [], .v (.c (.p (.int .u32) out3))), (4, [], .v (.c (.p (.int .u32) out))), (6, [], .v (.c (.ptr 6 0))), (14, [], .v (.c (.p (.sl (.pr (.int .i64) (.sl (.int .i64)))) g.2.2.2))), (15, [], .v (.c (.p (.int .i64) (g.2.2.2.length : Int)))), (16, [], .v (.c (.p (.int .i64) v16))), (21, [], .v (.c (.p (.sl (.int .i64)) ((g.2.2.2.getD (v16).toNat ((0 : Int), ([] : (List Int)))).2)))), (22, [], .v (.c (.p (.int .i64) (((g.2.2.2.getD (v16).toNat ((0 : Int), ([] : (List Int)))).2).length : Int)))), (23, [], .v (.c (.p (.int .i64) v23))), (24, [], .v (.c (.p .bool (decide (v23 < (((g.2.2.2.getD (v16).toNat ((0 : Int), ([] : (List Int)))).2).length : Int))))))], [(1, [], .box [.p (.int .i64) g.1, .p (.int .i64) g.2.1, .p (.int .i64) g.2.2.1, .p (.sl (.pr (.int .i64) (.sl (.int .i64)))) g.2.2.2]), (6, [], .box [.p (.int .i64) ((g.2.2.2.getD (v16).toNat ((0 : Int), ([] : (List Int)))).1), .p (.sl (.int .i64)) ((g.2.2.2.getD (v16).toNat ((0 : Int), ([] : (List Int)))).2)])]⟩ : St)) (by kernel_rfl) ⟨trivial, trivial⟩ ?_
        refine awl_nil ?_
        refine thenQ_n ?_
        refine aw_seq ?_
        refine aw_cond (b := (decide (v23 < (((g.2.2.2.getD (v16).toNat ((0 : Int), ([] : (List Int)))).2).length : Int)))) (by kernel_rfl) (fun hb => ?_) (fun hb => ?_)
        · have h := h.1 hb
          refine aw_skip ?_
          refine thenQ_n ?_
          refine aw_seq ?_
          refine aw_block ?_
          refine aw_seq ?_
          refine aw_region ?_
          obtain ⟨o1, h⟩ := h
          refine awl_runp 3 [1, 3, 4, 6, 8, 14, 15, 16, 21, 22, 23] [1, 6] (ob := (inIdx v23 ((g.2.2.2.getD (v16).toNat ((0 : Int), ([] : (List Int)))).2).length ∧ True ∧ True ∧ True)) (st' := (⟨50, [(1, [], .v (.c (.ptr 1 0))), (3, [], .v (.c (.p (.int .u32) out3))), (4, [], .v (.c (.p (.int .u32) out))), (6, [], .v (.c (.ptr 6 0))), (8, [], .v (.c (.p (.int .i64) (((g.2.2.2.getD (v16).toNat ((0 : Int), ([] : (List Int)))).2).getD (v23).toNat (0 : Int))))), (14, [], .v (.c (.p (.sl (.pr (.int .i64) (.sl (.int .i64)))) g.2.2.2))), (15, [], .v (.c (.p (.int .i64) (g.2.2.2.length : Int)))), (16, [], .v (.c (.p (.int .i64) v16))), (21, [], .v (.c (.p (.sl (.int .i64)) ((g.2.2.2.getD (v16).toNat ((0 : Int), ([] : (List Int)))).2)))), (22, [], .v (.c (.p (.int .i64) (((g.2.2.2.getD (v16).toNat ((0 : Int), ([] : (List Int)))).2).length : Int)))), (23, [], .v (.c (.p (.int .i64) v23)))], [(1, [], .box [.p (.int .i64) g.1, .p (.int .i64) g.2.1, .p (.int .i64) g.2.2.1, .p (.sl (.pr (.int .i64) (.sl (.int .i64)))) g.2.2.2]), (6, [], .box [.p (.int .i64) ((g.2.2.2.getD (v16).toNat ((0 : Int), ([] : (List Int)))).1), .p (.sl (.int .i64)) ((g.2.2.2.getD (v16).toNat ((0 : Int), ([] : (List Int)))).2)])]⟩ : St)) (by kernel_rfl) ⟨o1, trivial, trivial, trivial⟩ ?_
          refine awl_nil ?_
          refine thenQ_n ?_
          refine aw_seq ?_
          refine aw_region ?_
          refine awl_runp 8 [1, 3, 4, 6, 8, 14, 15, 16, 21, 22, 23, 31, 32, 34] [1, 6] (ob := (True ∧ True ∧ True ∧ True ∧ True ∧ ((decide (g.1 ≤ (((g.2.2.2.getD (v16).toNat ((0 : Int), ([] : (List Int)))).2).getD (v23).toNat (0 : Int)))) = true → True) ∧ ((decide (g.1 ≤ (((g.2.2.2.getD (v16).toNat ((0 : Int), ([] : (List Int)))).2).getD (v23).toNat (0 : Int)))) = true → True) ∧ ((decide (g.1 ≤ (((g.2.2.2.getD (v16).toNat ((0 : Int), ([] : (List Int)))).2).getD (v23).toNat (0 : Int)))) = true → True) ∧ True)) (st' := (⟨50, [(1, [], .v (.c (.ptr 1 0))), (3, [], .v (.c (.p (.int .u32) out3))), (4, [], .v (.c (.p (.int .u32) out))), (6, [], .v (.c (.ptr 6 0))), (8, [], .v (.c (.p (.int .i64) (((g.2.2.2.getD (v16).toNat ((0 : Int), ([] : (List Int)))).2).getD (v23).toNat (0 : Int))))), (14, [], .v (.c (.p (.sl (.pr (.int .i64) (.sl (.int .i64)))) g.2.2.2))), (15, [], .v (.c (.p (.int .i64) (g.2.2.2.length : Int)))), (16, [], .v (.c (.p (.int .i64) v16))), (21, [], .v (.c (.p (.sl (.int .i64)) ((g.2.2.2.getD (v16).toNat ((0 : Int), ([] : (List Int)))).2)))), (22, [], .v (.c (.p (.int .i64) (((g.2.2.2.getD (v16).toNat ((0 : Int), ([] : (List Int)))).2).length : Int)))), (23, [], .v (.c (.p (.int .i64) v23))), (31, [], .v (.c (.p .bool (decide (g.1 ≤ (((g.2.2.2.getD (v16).toNat ((0 : Int), ([] : (List Int)))).2).getD (v23).toNat (0 : Int))))))), (32, [(31, true)], .v (.c (.p (.int .u32) out3))), (34, [(31, true)], .v (.c (.p (.int .i64) ((g.2.2.2.getD (v16).toNat ((0 : Int), ([] : (List Int)))).1))))], [(1, [], .box [.p (.int .i64) g.1, .p (.int .i64) g.2.1, .p (.int .i64) g.2.2.1, .p (.sl (.pr (.int .i64) (.sl (.int .i64)))) g.2.2.2]), (6, [], .box [.p (.int .i64) ((g.2.2.2.getD (v16).toNat ((0 : Int), ([] : (List Int)))).1), .p (.sl (.int .i64)) ((g.2.2.2.getD (v16).toNat ((0 : Int), ([] : (List Int)))).2)])]⟩ : St)) (by kernel_rfl) ⟨trivial, trivial, trivial, trivial, trivial, (fun _ => trivial), (fun _ => trivial), (fun _ => trivial), trivial⟩ ?_
          refine awl_callk (p := [(31, true)]) (l := [toV1 (.int .u32) out3, toV1 (.int .i64) ((g.2.2.2.getD (v16).toNat ((0 : Int), ([] : (List Int)))).1)]) (cl := []) false [.d (.int .u32), .d (.int .i64)] [1, 3, 4, 6, 8, 14, 15, 16, 21, 22, 23, 31, 35] [1, 6] (fun (ret35v : Bool) => ((((decide (g.1 ≤ (((g.2.2.2.getD (v16).toNat ((0 : Int), ([] : (List Int)))).2).getD (v23).toNat (0 : Int)))) && ret35v) = true → (InR ((((g.2.2.2.getD (v16).toNat ((0 : Int), ([] : (List Int)))).2).getD (v23).toNat (0 : Int)) - g.1) ∧ 0 ≤ ((((g.2.2.2.getD (v16).toNat ((0 : Int), ([] : (List Int)))).2).getD (v23).toNat (0 : Int)) - g.1) ∧ VC42_k3 v23 X3 (bOr .u32 out3 (bShl .u32 (1 : Int) ((((g.2.2.2.getD (v16).toNat ((0 : Int), ([] : (List Int)))).2).getD (v23).toNat (0 : Int)) - g.1))))) ∧ (((decide (g.1 ≤ (((g.2.2.2.getD (v16).toNat ((0 : Int), ([] : (List Int)))).2).getD (v23).toNat (0 : Int)))) && ret35v) = false → VC42_k3 v23 X3 out3))) (fun ret35v => [toV1 .bool ret35v]) (fun ret35v => (⟨50, [(1, [], .v (.c (.ptr 1 0))), (3, [], .v (.c (.p (.int .u32) out3))), (4, [], .v (.c (.p (.int .u32) out))), (6, [], .v (.c (.ptr 6 0))), (8, [], .v (.c (.p (.int .i64) (((g.2.2.2.getD (v16).toNat ((0 : Int), ([] : (List Int)))).2).getD (v23).toNat (0 : Int))))), (14, [], .v (.c (.p (.sl (.pr (.int .i64) (.sl (.int .i64)))) g.2.2.2))), (15, [], .v (.c (.p (.int .i64) (g.2.2.2.length : Int)))), (16, [], .v (.c (.p (.int .i64) v16))), (21, [], .v (.c (.p (.sl (.int .i64)) ((g.2.2.2.getD (v16).toNat ((0 : Int), ([] : (List Int)))).2)))), (22, [], .v (.c (.p (.int .i64) (((g.2.2.2.getD (v16).toNat ((0 : Int), ([] : (List Int)))).2).length : Int)))), (23, [], .v (.c (.p (.int .i64) v23))), (31, [], .v (.c (.p .bool (decide (g.1 ≤ (((g.2.2.2.getD (v16).toNat ((0 : Int), ([] : (List Int)))).2).getD (v23).toNat (0 : Int))))))), (35, [(31, true)], .v (.c (.p .bool ret35v)))], [(1, [], .box [.p (.int .i64) g.1, .p (.int .i64) g.2.1, .p (.int .i64) g.2.2.1, .p (.sl (.pr (.int .i64) (.sl (.int .i64)))) g.2.2.2]), (6, [], .box [.p (.int .i64) ((g.2.2.2.getD (v16).toNat ((0 : Int), ([] : (List Int)))).1), .p (.sl (.int .i64)) ((g.2.2.2.getD (v16).toNat ((0 : Int), ([] : (List Int)))).2)])]⟩ : St)) (by kernel_rfl) rfl (by kernel_rfl) rfl (by kernel_rfl) Try.call47 (by kernel_rfl) (fun ret35v => by kernel_rfl) (fun e => by cases e) (fun hg => link47 out3 ((g.2.2.2.getD (v16).toNat ((0 : Int), ([] : (List Int)))).1) _ (by have := gcall_T h (show (decide (g.1 ≤ (((g.2.2.2.getD (v16).toNat ((0 : Int), ([] : (List Int)))).2).getD (v23).toNat (0 : Int)))) = true from hg); exact this)) (fun hg => ⟨false, by have := gcall_F h (show (decide (g.1 ≤ (((g.2.2.2.getD (v16).toNat ((0 : Int), ([] : (List Int)))).2).getD (v23).toNat (0 : Int)))) = false from hg); exact this⟩) (fun ret35v h => ?_)
          have h : ((((decide (g.1 ≤ (((g.2.2.2.getD (v16).toNat ((0 : Int), ([] : (List Int)))).2).getD (v23).toNat (0 : Int)))) && ret35v) = true → (InR ((((g.2.2.2.getD (v16).toNat ((0 : Int), ([] : (List Int)))).2).getD (v23).toNat (0 : Int)) - g.1) ∧ 0 ≤ ((((g.2.2.2.getD (v16).toNat ((0 : Int), ([] : (List Int)))).2).getD (v23).toNat (0 : Int)) - g.1) ∧ VC42_k3 v23 X3 (bOr .u32 out3 (bShl .u32 (1 : Int) ((((g.2.2.2.getD (v16).toNat ((0 : Int), ([] : (List Int)))).2).getD (v23).toNat (0 : Int)) - g.1))))) ∧ (((decide (g.1 ≤ (((g.2.2.2.getD (v16).toNat ((0 : Int), ([] : (List Int)))).2).getD (v23).toNat (0 : Int)))) && ret35v) = false → VC42_k3 v23 X3 out3)) := h
          refine awl_runp 1 [1, 3, 4, 6, 8, 14, 15, 16, 21, 22, 23, 36] [1, 6] (ob := (True ∧ True)) (st' := (⟨50, [(1, [], .v (.c (.ptr 1 0))), (3, [], .v (.c (.p (.int .u32) out3))), (4, [], .v (.c (.p (.int .u32) out))), (6, [], .v (.c (.ptr 6 0))), (8, [], .v (.c (.p (.int .i64) (((g.2.2.2.getD (v16).toNat ((0 : Int), ([] : (List Int)))).2).getD (v23).toNat (0 : Int))))), (14, [], .v (.c (.p (.sl (.pr (.int .i64) (.sl (.int .i64)))) g.2.2.2))), (15, [], .v (.c (.p (.int .i64) (g.2.2.2.length : Int)))), (16, [], .v (.c (.p (.int .i64) v16))), (21, [], .v (.c (.p (.sl (.int .i64)) ((g.2.2.2.getD (v16).toNat ((0 : Int), ([] : (List Int)))).2)))), (22, [], .v (.c (.p (.int .i64) (((g.2.2.2.getD (v16).toNat ((0 : Int), ([] : (List Int)))).2).length : Int)))), (23, [], .v (.c (.p (.int .i64) v23))), (36, [], .v (.c (.p .bool ((decide (g.1 ≤ (((g.2.2.2.getD (v16).toNat ((0 : Int), ([] : (List Int)))).2).getD (v23).toNat (0 : Int)))) && ret35v))))], [(1, [], .box [.p (.int .i64) g.1, .p (.int .i64) g.2.1, .p (.int .i64) g.2.2.1, .p (.sl (.pr (.int .i64) (.sl (.int .i64)))) g.2.2.2]), (6, [], .box [.p (.int .i64) ((g.2.2.2.getD (v16).toNat ((0 : Int), ([] : (List Int)))).1), .p (.sl (.int .i64)) ((g.2.2.2.getD (v16).toNat ((0 : Int), ([] : (List Int)))).2)])]⟩ : St)) (by kernel_rfl) ⟨trivial, trivial⟩ ?_
          refine awl_nil ?_
          refine thenQ_n ?_
          refine withJoin (σ := Int) (fun s => (⟨50, [(1, [], .v (.c (.ptr 1 0))), (3, [], .v (.c (.p (.int .u32) s))), (4, [], .v (.c (.p (.int .u32) out))), (6, [], .v (.c (.ptr 6 0))), (14, [], .v (.c (.p (.sl (.pr (.int .i64) (.sl (.int .i64)))) g.2.2.2))), (15, [], .v (.c (.p (.int .i64) (g.2.2.2.length : Int)))), (16, [], .v (.c (.p (.int .i64) v16))), (21, [], .v (.c (.p (.sl (.int .i64)) ((g.2.2.2.getD (v16).toNat ((0 : Int), ([] : (List Int)))).2)))), (22, [], .v (.c (.p (.int .i64) (((g.2.2.2.getD (v16).toNat ((0 : Int), ([] : (List Int)))).2).length : Int)))), (23, [], .v (.c (.p (.int .i64) v23)))], [(1, [], .box [.p (.int .i64) g.1, .p (.int .i64) g.2.1, .p (.int .i64) g.2.2.1, .p (.sl (.pr (.int .i64) (.sl (.int .i64)))) g.2.2.2]), (6, [], .box [.p (.int .i64) ((g.2.2.2.getD (v16).toNat ((0 : Int), ([] : (List Int)))).1), .p (.sl (.int .i64)) ((g.2.2.2.getD (v16).toNat ((0 : Int), ([] : (List Int)))).2)])]⟩ : St)) (fun s => VC42_k3 v23 X3 s) (fun out4 h => ?_) (fun rest3 => ?_)
          · have h : VC42_k3 v23 X3 out4 := h
            unfold VC42_k3 at h
            refine blockQ_n ?_
            refine thenQ_n ?_
            refine aw_region ?_
            obtain ⟨o1, h⟩ := h
            refine awl_runp 2 [1, 3, 4, 6, 14, 15, 16, 21, 22, 23] [1, 6] (ob := (InR (v23 + (1 : Int)) ∧ True ∧ True)) (st' := (⟨50, [(1, [], .v (.c (.ptr 1 0))), (3, [], .v (.c (.p (.int .u32) out4))), (4, [], .v (.c (.p (.int .u32) out))), (6, [], .v (.c (.ptr 6 0))), (14, [], .v (.c (.p (.sl (.pr (.int .i64) (.sl (.int .i64)))) g.2.2.2))), (15, [], .v (.c (.p (.int .i64) (g.2.2.2.length : Int)))), (16, [], .v (.c (.p (.int .i64) v16))), (21, [], .v (.c (.p (.sl (.int .i64)) ((g.2.2.2.getD (v16).toNat ((0 : Int), ([] : (List Int)))).2)))), (22, [], .v (.c (.p (.int .i64) (((g.2.2.2.getD (v16).toNat ((0 : Int), ([] : (List Int)))).2).length : Int)))), (23, [], .v (.c (.p (.int .i64) (v23 + (1 : Int)))))], [(1, [], .box [.p (.int .i64) g.1, .p (.int .i64) g.2.1, .p (.int .i64) g.2.2.1, .p (.sl (.pr (.int .i64) (.sl (.int .i64)))) g.2.2.2]), (6, [], .box [.p (.int .i64) ((g.2.2.2.getD (v16).toNat ((0 : Int), ([] : (List Int)))).1), .p (.sl (.int .i64)) ((g.2.2.2.getD (v16).toNat ((0 : Int), ([] : (List Int)))).2)])]⟩ : St)) (by kernel_rfl) ⟨o1, trivial, trivial⟩ ?_
            refine awl_nil ?_
            exact thenQ_n ⟨(out4, (v23 + (1 : Int))), rfl, h⟩
          · refine aw_cond (b := ((decide (g.1 ≤ (((g.2.2.2.getD (v16).toNat ((0 : Int), ([] : (List Int)))).2).getD (v23).toNat (0 : Int)))) && ret35v)) (by kernel_rfl) (fun hb => ?_) (fun hb => ?_)
            · have h := h.1 hb
              refine aw_region ?_
              obtain ⟨o1, o2, h⟩ := h
              refine awl_runp 8 [1, 3, 4, 6, 14, 15, 16, 21, 22, 23] [1, 6] (ob := (True ∧ True ∧ True ∧ True ∧ InR ((((g.2.2.2.getD (v16).toNat ((0 : Int), ([] : (List Int)))).2).getD (v23).toNat (0 : Int)) - g.1) ∧ 0 ≤ ((((g.2.2.2.getD (v16).toNat ((0 : Int), ([] : (List Int)))).2).getD (v23).toNat (0 : Int)) - g.1) ∧ True ∧ True ∧ True)) (st' := (⟨50, [(1, [], .v (.c (.ptr 1 0))), (3, [], .v (.c (.p (.int .u32) (bOr .u32 out3 (bShl .u32 (1 : Int) ((((g.2.2.2.getD (v16).toNat ((0 : Int), ([] : (List Int)))).2).getD (v23).toNat (0 : Int)) - g.1)))))), (4, [], .v (.c (.p (.int .u32) out))), (6, [], .v (.c (.ptr 6 0))), (14, [], .v (.c (.p (.sl (.pr (.int .i64) (.sl (.int .i64)))) g.2.2.2))), (15, [], .v (.c (.p (.int .i64) (g.2.2.2.length : Int)))), (16, [], .v (.c (.p (.int .i64) v16))), (21, [], .v (.c (.p (.sl (.int .i64)) ((g.2.2.2.getD (v16).toNat ((0 : Int), ([] : (List Int)))).2)))), (22, [], .v (.c (.p (.int .i64) (((g.2.2.2.getD (v16).toNat ((0 : Int), ([] : (List Int)))).2).length : Int)))), (23, [], .v (.c (.p (.int .i64) v23)))], [(1, [], .box [.p (.int .i64) g.1, .p (.int .i64) g.2.1, .p (.int .i64) g.2.2.1, .p (.sl (.pr (.int .i64) (.sl (.int .i64)))) g.2.2.2]), (6, [], .box [.p (.int .i64) ((g.2.2.2.getD (v16).toNat ((0 : Int), ([] : (List Int)))).1), .p (.sl (.int .i64)) ((g.2.2.2.getD (v16).toNat ((0 : Int), ([] : (List Int)))).2)])]⟩ : St)) (by kernel_rfl) ⟨trivial, trivial, trivial, trivial, o1, o2, trivial, trivial, trivial⟩ ?_
              refine awl_nil ?_
              exact rest3 (bOr .u32 out3 (bShl .u32 (1 : Int) ((((g.2.2.2.getD (v16).toNat ((0 : Int), ([] : (List Int)))).2).getD (v23).toNat (0 : Int)) - g.1))) h
            · have h := h.2 hb
              refine aw_conv [.prune [1, 3, 4, 6, 14, 15, 16, 21, 22, 23] [1, 6]] (st' := (⟨50, [(1, [], .v (.c (.ptr 1 0))), (3, [], .v (.c (.p (.int .u32) out3))), (4, [], .v (.c (.p (.int .u32) out))), (6, [], .v (.c (.ptr 6 0))), (14, [], .v (.c (.p (.sl (.pr (.int .i64) (.sl (.int .i64)))) g.2.2.2))), (15, [], .v (.c (.p (.int .i64) (g.2.2.2.length : Int)))), (16, [], .v (.c (.p (.int .i64) v16))), (21, [], .v (.c (.p (.sl (.int .i64)) ((g.2.2.2.getD (v16).toNat ((0 : Int), ([] : (List Int)))).2)))), (22, [], .v (.c (.p (.int .i64) (((g.2.2.2.getD (v16).toNat ((0 : Int), ([] : (List Int)))).2).length : Int)))), (23, [], .v (.c (.p (.int .i64) v23)))], [(1, [], .box [.p (.int .i64) g.1, .p (.int .i64) g.2.1, .p (.int .i64) g.2.2.1, .p (.sl (.pr (.int .i64) (.sl (.int .i64)))) g.2.2.2]), (6, [], .box [.p (.int .i64) ((g.2.2.2.getD (v16).toNat ((0 : Int), ([] : (List Int)))).1), .p (.sl (.int .i64)) ((g.2.2.2.getD (v16).toNat ((0 : Int), ([] : (List Int)))).2)])]⟩ : St)) (by kernel_rfl) ?_
              refine aw_skip ?_
              exact rest3 out3 h
        · have h := h.2 hb
          refine aw_conv [.prune [1, 3, 4, 14, 15, 16] [1]] (st' := (⟨50, [(1, [], .v (.c (.ptr 1 0))), (3, [], .v (.c (.p (.int .u32) out3))), (4, [], .v (.c (.p (.int .u32) out))), (14, [], .v (.c (.p (.sl (.pr (.int .i64) (.sl (.int .i64)))) g.2.2.2))), (15, [], .v (.c (.p (.int .i64) (g.2.2.2.length : Int)))), (16, [], .v (.c (.p (.int .i64) v16)))], [(1, [], .box [.p (.int .i64) g.1, .p (.int .i64) g.2.1, .p (.int .i64) g.2.2.1, .p (.sl (.pr (.int .i64) (.sl (.int .i64)))) g.2.2.2])]⟩ : St)) (by kernel_rfl) ?_
          refine aw_exit ?_
          refine thenQ_x ?_
          refine thenQ_x ?_
          refine blockQ_hit ?_
          exact rest2 out3 h
    · have h := h.2 hb
      refine aw_conv [.prune [1, 3, 4] [1]] (st' := (⟨50, [(1, [], .v (.c (.ptr 1 0))), (3, [], .v (.c (.p (.int .u32) out2))), (4, [], .v (.c (.p (.int .u32) out)))], [(1, [], .box [.p (.int .i64) g.1, .p (.int .i64) g.2.1, .p (.int .i64) g.2.2.1, .p (.sl (.pr (.int .i64) (.sl (.int .i64)))) g.2.2.2])]⟩ : St)) (by kernel_rfl) ?_
      refine aw_exit ?_
      refine thenQ_x ?_
      refine thenQ_x ?_
      refine blockQ_hit ?_
      exact rest1 out2 h

-- coppicer/grammar.Comes
def VC17 (g : (Int × (Int × (Int × (List (Int × (List Int))))))) (K : Int × Int → Prop) : Prop :=
  VC39 g (fun (x : (Int × (Int × (Int × (List (Int × (List Int))))))) (K : Int → Prop) => VC42 x K) (fun (ret5v : Int × Int) => K (ret5v.1, ret5v.2))

set_option maxHeartbeats 4000000 in
theorem link17 (g : (Int × (Int × (Int × (List (Int × (List Int))))))) (K : Int × Int → Prop) (h : VC17 g K) : ACalls Try.prog 17 [toV1 (.pr (.int .i64) (.pr (.int .i64) (.pr (.int .i64) (.sl (.pr (.int .i64) (.sl (.int .i64))))))) g] (fun res => ∃ y, res = (fun y => [toV1 (.int .u32) y.1, toV1 (.int .i64) y.2]) y ∧ K y) := by
  refine acalls_of_aw [(.int .u32), (.int .i64)] [.t 2, .t 3] Try.func17 rfl rfl rfl ?_
  unfold VC17 at h
  refine aw_seq ?_
  refine aw_region ?_
  refine awl_runp 3 [1] [1] (ob := (True ∧ True ∧ True ∧ True)) (st' := (⟨8, [(1, [], .v (.c (.ptr 1 0)))], [(1, [], .box [.p (.int .i64) g.1, .p (.int .i64) g.2.1, .p (.int .i64) g.2.2.1, .p (.sl (.pr (.int .i64) (.sl (.int .i64)))) g.2.2.2])]⟩ : St)) (by kernel_rfl) ⟨trivial, trivial, trivial, trivial⟩ ?_
  refine awl_nil ?_
  refine thenQ_n ?_
  refine aw_seq ?_
  refine aw_region ?_
  refine awl_runp 1 [4] [] (ob := (True ∧ True)) (st' := (⟨8, [(4, [], .v (.agg [.p (.int .i64) g.1, .p (.int .i64) g.2.1, .p (.int .i64) g.2.2.1, .p (.sl (.pr (.int .i64) (.sl (.int .i64)))) g.2.2.2]))], []⟩ : St)) (by kernel_rfl) ⟨trivial, trivial⟩ ?_
  refine awl_callk (p := []) (l := [toV1 (.pr (.int .i64) (.pr (.int .i64) (.pr (.int .i64) (.sl (.pr (.int .i64) (.sl (.int .i64))))))) g, .c (.fn 42 [])]) (cl := []) false [.d (.pr (.int .i64) (.pr (.int .i64) (.pr (.int .i64) (.sl (.pr (.int .i64) (.sl (.int .i64))))))), .fn] [5] [] (fun (ret5v : Int × Int) => K (ret5v.1, ret5v.2)) (fun ret5v => [toV1 (.int .u32) ret5v.1, toV1 (.int .i64) ret5v.2]) (fun ret5v => (⟨8, [(5, [], .tup [.c (.p (.int .u32) ret5v.1), .c (.p (.int .i64) ret5v.2)])], []⟩ : St)) (by kernel_rfl) rfl (by kernel_rfl) rfl (by kernel_rfl) Try.call39 (by kernel_rfl) (fun ret5v => by kernel_rfl) (fun e => by cases e) (fun hg => link39 g 42 [] (fun (x : (Int × (Int × (Int × (List (Int × (List Int))))))) (K : Int → Prop) => VC42 x K) ⟨Try.call42, fun x K h => link42 x K h⟩ _ h) (fun hg => noF hg) (fun ret5v h => ?_)
  have h : K (ret5v.1, ret5v.2) := h
  refine awl_runp 4 [2, 3] [] (ob := (True ∧ True ∧ True ∧ True ∧ True)) (st' := (⟨8, [(2, [], .v (.c (.p (.int .u32) ret5v.1))), (3, [], .v (.c (.p (.int .i64) ret5v.2)))], []⟩ : St)) (by kernel_rfl) ⟨trivial, trivial, trivial, trivial, trivial⟩ ?_
  refine awl_nil ?_
  refine thenQ_n ?_
  refine aw_ret ?_
  exact retQ_r (σ := Int × Int) (R := (fun y => [toV1 (.int .u32) y.1, toV1 (.int .i64) y.2])) (ob := (True ∧ True ∧ True)) (ret5v.1, ret5v.2) (by kernel_rfl) ⟨trivial, trivial, trivial⟩ h

-- coppicer/coppicerref.Signs
def VC43_k1 (K : Bool → Prop) : Prop :=
  K true

def VC43_l1 (g : (Int × (Int × (Int × (List (Int × (List Int))))))) (l : (List Int)) (K : Bool → Prop) (v9 : Int) (X1 : Int → Prop) : Prop :=
  (((decide (v9 < (l.length : Int))) = true → (inIdx v9 l.length ∧ (((decide ((l.getD (v9).toNat (0 : Int)) < (0 : Int))) = false → InR (g.1 + g.2.1)) ∧ ((((decide ((l.getD (v9).toNat (0 : Int)) < (0 : Int))) || (decide ((g.1 + g.2.1) ≤ (l.getD (v9).toNat (0 : Int))))) = true → K false) ∧ (((decide ((l.getD (v9).toNat (0 : Int)) < (0 : Int))) || (decide ((g.1 + g.2.1) ≤ (l.getD (v9).toNat (0 : Int))))) = false → (InR (v9 + (1 : Int)) ∧ X1 (v9 + (1 : Int)))))))) ∧ ((decide (v9 < (l.length : Int))) = false → VC43_k1 K))

def VC43 (g : (Int × (Int × (Int × (List (Int × (List Int))))))) (l : (List Int)) (K : Bool → Prop) : Prop :=
  Loop (σ := Int) (fun s X => VC43_l1 g l K s X) (0 : Int)

set_option maxHeartbeats 4000000 in
theorem link43 (g : (Int × (Int × (Int × (List (Int × (List Int))))))) (l : (List Int)) (K : Bool → Prop) (h : VC43 g l K) : ACalls Try.prog 43 [toV1 (.pr (.int .i64) (.pr (.int .i64) (.pr (.int .i64) (.sl (.pr (.int .i64) (.sl (.int .i64))))))) g, toV1 (.sl (.int .i64)) l] (fun res => ∃ y, res = (fun y => [toV1 .bool y]) y ∧ K y) := by
  refine acalls_of_aw [.bool] [.t 4] Try.func43 rfl rfl rfl ?_
  unfold VC43 at h
  refine aw_seq ?_
  refine aw_region ?_
  refine awl_runp 2 [1, 2] [2] (ob := (True ∧ True ∧ True)) (st' := (⟨25, [(1, [], .v (.c (.p (.sl (.int .i64)) l))), (2, [], .v (.c (.ptr 2 0)))], [(2, [], .box [.p (.int .i64) g.1, .p (.int .i64) g.2.1, .p (.int .i64) g.2.2.1, .p (.sl (.pr (.int .i64) (.sl (.int .i64)))) g.2.2.2])]⟩ : St)) (by kernel_rfl) ⟨trivial, trivial, trivial⟩ ?_
  refine awl_nil ?_
  refine thenQ_n ?_
  refine aw_seq ?_
  refine aw_seq ?_
  refine aw_region ?_
  refine awl_runp 3 [2, 7, 8, 9] [2] (ob := (True ∧ True ∧ True ∧ True)) (st' := (⟨25, [(2, [], .v (.c (.ptr 2 0))), (7, [], .v (.c (.p (.sl (.int .i64)) l))), (8, [], .v (.c (.p (.int .i64) (l.length : Int)))), (9, [], .v (.c (.p (.int .i64) (0 : Int))))], [(2, [], .box [.p (.int .i64) g.1, .p (.int .i64) g.2.1, .p (.int .i64) g.2.2.1, .p (.sl (.pr (.int .i64) (.sl (.int .i64)))) g.2.2.2])]⟩ : St)) (by kernel_rfl) ⟨trivial, trivial, trivial, trivial⟩ ?_
  refine awl_nil ?_
  refine thenQ_n ?_
  refine withJoin (σ := Unit) (fun s => (⟨25, [], []⟩ : St)) (fun s => VC43_k1 K) (fun s h => ?_) (fun rest1 => ?_)
  · have h : VC43_k1 K := h
    unfold VC43_k1 at h
    refine thenQ_n ?_
    refine aw_seq ?_
    refine aw_region ?_
    refine awl_runp 1 [4] [] (ob := (True ∧ True)) (st' := (⟨25, [(4, [], .v (.c (.p .bool true)))], []⟩ : St)) (by kernel_rfl) ⟨trivial, trivial⟩ ?_
    refine awl_nil ?_
    refine thenQ_n ?_
    refine aw_ret ?_
    exact retQ_r (σ := Bool) (R := (fun y => [toV1 .bool y])) (ob := (True ∧ True)) true (by kernel_rfl) ⟨trivial, trivial⟩ h
  · refine aw_block ?_
    refine aw_loop (σ := Int) (fun s => (⟨25, [(2, [], .v (.c (.ptr 2 0))), (7, [], .v (.c (.p (.sl (.int .i64)) l))), (8, [], .v (.c (.p (.int .i64) (l.length : Int)))), (9, [], .v (.c (.p (.int .i64) s)))], [(2, [], .box [.p (.int .i64) g.1, .p (.int .i64) g.2.1, .p (.int .i64) g.2.2.1, .p (.sl (.pr (.int .i64) (.sl (.int .i64)))) g.2.2.2])]⟩ : St)) (fun s X => VC43_l1 g l K s X) (s0 := (0 : Int)) (fun v9 X1 h => ?_) h
    have h : VC43_l1 g l K v9 X1 := h
    unfold VC43_l1 at h
    refine aw_seq ?_
    refine aw_region ?_
    refine awl_runp 1 [2, 7, 8, 9, 10] [2] (ob := (True ∧ True)) (st' := (⟨25, [(2, [], .v (.c (.ptr 2 0))), (7, [], .v (.c (.p (.sl (.int .i64)) l))), (8, [], .v (.c (.p (.int .i64) (l.length : Int)))), (9, [], .v (.c (.p (.int .i64) v9))), (10, [], .v (.c (.p .bool (decide (v9 < (l.length : Int))))))], [(2, [], .box [.p (.int .i64) g.1, .p (.int .i64) g.2.1, .p (.int .i64) g.2.2.1, .p (.sl (.pr (.int .i64) (.sl (.int .i64)))) g.2.2.2])]⟩ : St)) (by kernel_rfl) ⟨trivial, trivial⟩ ?_
    refine awl_nil ?_
    refine thenQ_n ?_
    refine aw_seq ?_
    refine aw_cond (b := (decide (v9 < (l.length : Int)))) (by kernel_rfl) (fun hb => ?_) (fun hb => ?_)
    · have h := h.1 hb
      refine aw_skip ?_
      refine thenQ_n ?_
      refine aw_seq ?_
      refine aw_block ?_
      refine aw_seq ?_
      refine aw_region ?_
      obtain ⟨o1, h⟩ := h
      refine awl_runp 3 [2, 6, 7, 8, 9] [2] (ob := (inIdx v9 l.length ∧ True ∧ True ∧ True)) (st' := (⟨25, [(2, [], .v (.c (.ptr 2 0))), (6, [], .v (.c (.p (.int .i64) (l.getD (v9).toNat (0 : Int))))), (7, [], .v (.c (.p (.sl (.int .i64)) l))), (8, [], .v (.c (.p (.int .i64) (l.length : Int)))), (9, [], .v (.c (.p (.int .i64) v9)))], [(2, [], .box [.p (.int .i64) g.1, .p (.int .i64) g.2.1, .p (.int .i64) g.2.2.1, .p (.sl (.pr (.int .i64) (.sl (.int .i64)))) g.2.2.2])]⟩ : St)) (by kernel_rfl) ⟨o1, trivial, trivial, trivial⟩ ?_
      refine awl_nil ?_
      refine thenQ_n ?_
      refine aw_seq ?_
      refine aw_region ?_
      obtain ⟨o1, h⟩ := h
      refine awl_runp 11 [2, 7, 8, 9, 23] [2] (ob := (True ∧ True ∧ True ∧ ((decide ((l.getD (v9).toNat (0 : Int)) < (0 : Int))) = false → True) ∧ ((decide ((l.getD (v9).toNat (0 : Int)) < (0 : Int))) = false → True) ∧ ((decide ((l.getD (v9).toNat (0 : Int)) < (0 : Int))) = false → True) ∧ ((decide ((l.getD (v9).toNat (0 : Int)) < (0 : Int))) = false → True) ∧ ((decide ((l.getD (v9).toNat (0 : Int)) < (0 : Int))) = false → True) ∧ ((decide ((l.getD (v9).toNat (0 : Int)) < (0 : Int))) = false → InR (g.1 + g.2.1)) ∧ ((decide ((l.getD (v9).toNat (0 : Int)) < (0 : Int))) = false → True) ∧ True ∧ True)) (st' := (⟨25, [(2, [], .v (.c (.ptr 2 0))), (7, [], .v (.c (.p (.sl (.int .i64)) l))), (8, [], .v (.c (.p (.int .i64) (l.length : Int)))), (9, [], .v (.c (.p (.int .i64) v9))), (23, [], .v (.c (.p .bool ((decide ((l.getD (v9).toNat (0 : Int)) < (0 : Int))) || (decide ((g.1 + g.2.1) ≤ (l.getD (v9).toNat (0 : Int))))))))], [(2, [], .box [.p (.int .i64) g.1, .p (.int .i64) g.2.1, .p (.int .i64) g.2.2.1, .p (.sl (.pr (.int .i64) (.sl (.int .i64)))) g.2.2.2])]⟩ : St)) (by kernel_rfl) ⟨trivial, trivial, trivial, (fun _ => trivial), (fun _ => trivial), (fun _ => trivial), (fun _ => trivial), (fun _ => trivial), o1, (fun _ => trivial), trivial, trivial⟩ ?_
      refine awl_nil ?_
      refine thenQ_n ?_
      refine aw_cond (b := ((decide ((l.getD (v9).toNat (0 : Int)) < (0 : Int))) || (decide ((g.1 + g.2.1) ≤ (l.getD (v9).toNat (0 : Int)))))) (by kernel_rfl) (fun hb => ?_) (fun hb => ?_)
      · have h := h.1 hb
        refine aw_seq ?_
        refine aw_region ?_
        refine awl_runp 1 [4] [] (ob := (True ∧ True)) (st' := (⟨25, [(4, [], .v (.c (.p .bool false)))], []⟩ : St)) (by kernel_rfl) ⟨trivial, trivial⟩ ?_
        refine awl_nil ?_
        refine thenQ_n ?_
        refine aw_ret ?_
        refine blockQ_r ?_
        refine thenQ_r ?_
        refine thenQ_r ?_
        refine blockQ_r ?_
        refine thenQ_r ?_
        exact retQ_r (σ := Bool) (R := (fun y => [toV1 .bool y])) (ob := (True ∧ True)) false (by kernel_rfl) ⟨trivial, trivial⟩ h
      · have h := h.2 hb
        refine aw_skip ?_
        refine blockQ_n ?_
        refine thenQ_n ?_
        refine aw_region ?_
        obtain ⟨o1, h⟩ := h
        refine awl_runp 2 [2, 7, 8, 9] [2] (ob := (InR (v9 + (1 : Int)) ∧ True ∧ True)) (st' := (⟨25, [(2, [], .v (.c (.ptr 2 0))), (7, [], .v (.c (.p (.sl (.int .i64)) l))), (8, [], .v (.c (.p (.int .i64) (l.length : Int)))), (9, [], .v (.c (.p (.int .i64) (v9 + (1 : Int)))))], [(2, [], .box [.p (.int .i64) g.1, .p (.int .i64) g.2.1, .p (.int .i64) g.2.2.1, .p (.sl (.pr (.int .i64) (.sl (.int .i64)))) g.2.2.2])]⟩ : St)) (by kernel_rfl) ⟨o1, trivial, trivial⟩ ?_
        refine awl_nil ?_
        exact thenQ_n ⟨(v9 + (1 : Int)), rfl, h⟩
    · have h := h.2 hb
      refine aw_conv [.prune [] []] (st' := (⟨25, [], []⟩ : St)) (by kernel_rfl) ?_
      refine aw_exit ?_
      refine thenQ_x ?_
      refine thenQ_x ?_
      refine blockQ_hit ?_
      exact rest1 () h

-- coppicer/coppicerref.GrammarCheck
def VC18_k2 (K : Int → Prop) : Prop :=
  K (0 : Int)

def VC18_l1 (g : (Int × (Int × (Int × (List (Int × (List Int))))))) (K : Int → Prop) (v56 : Int) (X1 : Int → Prop) : Prop :=
  (((decide (v56 < (g.2.2.2.length : Int))) = true → (inIdx v56 g.2.2.2.length ∧ gcall (α := Bool) (!((decide ((g.2.2.2.getD (v56).toNat ((0 : Int), ([] : (List Int)))).1 < (0 : Int))) || (decide (g.2.1 ≤ (g.2.2.2.getD (v56).toNat ((0 : Int), ([] : (List Int)))).1)))) (VC43 g ((g.2.2.2.getD (v56).toNat ((0 : Int), ([] : (List Int)))).2)) false (fun (ret74v : Bool) => (((((decide ((g.2.2.2.getD (v56).toNat ((0 : Int), ([] : (List Int)))).1 < (0 : Int))) || (decide (g.2.1 ≤ (g.2.2.2.getD (v56).toNat ((0 : Int), ([] : (List Int)))).1))) || (!ret74v)) = true → K (2 : Int)) ∧ ((((decide ((g.2.2.2.getD (v56).toNat ((0 : Int), ([] : (List Int)))).1 < (0 : Int))) || (decide (g.2.1 ≤ (g.2.2.2.getD (v56).toNat ((0 : Int), ([] : (List Int)))).1))) || (!ret74v)) = false → (InR (v56 + (1 : Int)) ∧ X1 (v56 + (1 : Int)))))))) ∧ ((decide (v56 < (g.2.2.2.length : Int))) = false → VC18_k2 K))

def VC18_k1 (g : (Int × (Int × (Int × (List (Int × (List Int))))))) (K : Int → Prop) : Prop :=
  ((((decide (g.2.2.1 < (0 : Int))) || (decide (g.2.1 ≤ g.2.2.1))) = true → K (2 : Int)) ∧ (((decide (g.2.2.1 < (0 : Int))) || (decide (g.2.1 ≤ g.2.2.1))) = false → Loop (σ := Int) (fun s X => VC18_l1 g K s X) (0 : Int)))

def VC18_l2 (g : (Int × (Int × (Int × (List (Int × (List Int))))))) (K : Int → Prop) (v34 : Int) (X2 : Int → Prop) : Prop :=
  (((decide (v34 < (g.2.2.2.length : Int))) = true → (inIdx v34 g.2.2.2.length ∧ (((decide ((4 : Int) < (((g.2.2.2.getD (v34).toNat ((0 : Int), ([] : (List Int)))).2).length : Int))) = true → K (1 : Int)) ∧ ((decide ((4 : Int) < (((g.2.2.2.getD (v34).toNat ((0 : Int), ([] : (List Int)))).2).length : Int))) = false → (InR (v34 + (1 : Int)) ∧ X2 (v34 + (1 : Int))))))) ∧ ((decide (v34 < (g.2.2.2.length : Int))) = false → VC18_k1 g K))

def VC18 (g : (Int × (Int × (Int × (List (Int × (List Int))))))) (K : Int → Prop) : Prop :=
  (((((((decide (g.1 < (1 : Int))) || (decide ((3 : Int) < g.1))) || (decide (g.2.1 < (1 : Int)))) || (decide ((5 : Int) < g.2.1))) || (decide ((10 : Int) < (g.2.2.2.length : Int)))) = true → K (1 : Int)) ∧ ((((((decide (g.1 < (1 : Int))) || (decide ((3 : Int) < g.1))) || (decide (g.2.1 < (1 : Int)))) || (decide ((5 : Int) < g.2.1))) || (decide ((10 : Int) < (g.2.2.2.length : Int)))) = false → Loop (σ := Int) (fun s X => VC18_l2 g K s X) (0 : Int)))

set_option maxHeartbeats 4000000 in
theorem link18 (g : (Int × (Int × (Int × (List (Int × (List Int))))))) (K : Int → Prop) (h : VC18 g K) : ACalls Try.prog 18 [toV1 (.pr (.int .i64) (.pr (.int .i64) (.pr (.int .i64) (.sl (.pr (.int .i64) (.sl (.int .i64))))))) g] (fun res => ∃ y, res = (fun y => [toV1 (.int .i64) y]) y ∧ K y) := by
  refine acalls_of_aw [(.int .i64)] [.t 2] Try.func18 rfl rfl rfl ?_
  unfold VC18 at h
  refine aw_seq ?_
  refine aw_region ?_
  refine awl_runp 2 [1] [1] (ob := (True ∧ True ∧ True)) (st' := (⟨78, [(1, [], .v (.c (.ptr 1 0)))], [(1, [], .box [.p (.int .i64) g.1, .p (.int .i64) g.2.1, .p (.int .i64) g.2.2.1, .p (.sl (.pr (.int .i64) (.sl (.int .i64)))) g.2.2.2])]⟩ : St)) (by kernel_rfl) ⟨trivial, trivial, trivial⟩ ?_
  refine awl_nil ?_
  refine thenQ_n ?_
  refine aw_seq ?_
  refine aw_seq ?_
  refine aw_region ?_
  refine awl_runp 24 [1, 30] [1] (ob := (True ∧ True ∧ True ∧ True ∧ ((decide (g.1 < (1 : Int))) = false → True) ∧ ((decide (g.1 < (1 : Int))) = false → True) ∧ ((decide (g.1 < (1 : Int))) = false → True) ∧ True ∧ True ∧ (((decide (g.1 < (1 : Int))) || (decide ((3 : Int) < g.1))) = false → True) ∧ (((decide (g.1 < (1 : Int))) || (decide ((3 : Int) < g.1))) = false → True) ∧ (((decide (g.1 < (1 : Int))) || (decide ((3 : Int) < g.1))) = false → True) ∧ True ∧ True ∧ ((((decide (g.1 < (1 : Int))) || (decide ((3 : Int) < g.1))) || (decide (g.2.1 < (1 : Int)))) = false → True) ∧ ((((decide (g.1 < (1 : Int))) || (decide ((3 : Int) < g.1))) || (decide (g.2.1 < (1 : Int)))) = false → True) ∧ ((((decide (g.1 < (1 : Int))) || (decide ((3 : Int) < g.1))) || (decide (g.2.1 < (1 : Int)))) = false → True) ∧ True ∧ True ∧ (((((decide (g.1 < (1 : Int))) || (decide ((3 : Int) < g.1))) || (decide (g.2.1 < (1 : Int)))) || (decide ((5 : Int) < g.2.1))) = false → True) ∧ (((((decide (g.1 < (1 : Int))) || (decide ((3 : Int) < g.1))) || (decide (g.2.1 < (1 : Int)))) || (decide ((5 : Int) < g.2.1))) = false → True) ∧ (((((decide (g.1 < (1 : Int))) || (decide ((3 : Int) < g.1))) || (decide (g.2.1 < (1 : Int)))) || (decide ((5 : Int) < g.2.1))) = false → True) ∧ (((((decide (g.1 < (1 : Int))) || (decide ((3 : Int) < g.1))) || (decide (g.2.1 < (1 : Int)))) || (decide ((5 : Int) < g.2.1))) = false → True) ∧ True ∧ True)) (st' := (⟨78, [(1, [], .v (.c (.ptr 1 0))), (30, [], .v (.c (.p .bool (((((decide (g.1 < (1 : Int))) || (decide ((3 : Int) < g.1))) || (decide (g.2.1 < (1 : Int)))) || (decide ((5 : Int) < g.2.1))) || (decide ((10 : Int) < (g.2.2.2.length : Int)))))))], [(1, [], .box [.p (.int .i64) g.1, .p (.int .i64) g.2.1, .p (.int .i64) g.2.2.1, .p (.sl (.pr (.int .i64) (.sl (.int .i64)))) g.2.2.2])]⟩ : St)) (by kernel_rfl) ⟨trivial, trivial, trivial, trivial, (fun _ => trivial), (fun _ => trivial), (fun _ => trivial), trivial, trivial, (fun _ => trivial), (fun _ => trivial), (fun _ => trivial), trivial, trivial, (fun _ => trivial), (fun _ => trivial), (fun _ => trivial), trivial, trivial, (fun _ => trivial), (fun _ => trivial), (fun _ => trivial), (fun _ => trivial), trivial, trivial⟩ ?_
  refine awl_nil ?_
  refine thenQ_n ?_
  refine aw_cond (b := (((((decide (g.1 < (1 : Int))) || (decide ((3 : Int) < g.1))) || (decide (g.2.1 < (1 : Int)))) || (decide ((5 : Int) < g.2.1))) || (decide ((10 : Int) < (g.2.2.2.length : Int))))) (by kernel_rfl) (fun hb => ?_) (fun hb => ?_)
  · have h := h.1 hb
    refine aw_seq ?_
    refine aw_region ?_
    refine awl_runp 1 [2] [] (ob := (True ∧ True)) (st' := (⟨78, [(2, [], .v (.c (.p (.int .i64) (1 : Int))))], []⟩ : St)) (by kernel_rfl) ⟨trivial, trivial⟩ ?_
    refine awl_nil ?_
    refine thenQ_n ?_
    refine aw_ret ?_
    refine thenQ_r ?_
    exact retQ_r (σ := Int) (R := (fun y => [toV1 (.int .i64) y])) (ob := (True ∧ True)) (1 : Int) (by kernel_rfl) ⟨trivial, trivial⟩ h
  · have h := h.2 hb
    refine aw_skip ?_
    refine thenQ_n ?_
    refine aw_seq ?_
    refine aw_seq ?_
    refine aw_region ?_
    refine awl_runp 4 [1, 32, 33, 34] [1] (ob := (True ∧ True ∧ True ∧ True ∧ True)) (st' := (⟨78, [(1, [], .v (.c (.ptr 1 0))), (32, [], .v (.c (.p (.sl (.pr (.int .i64) (.sl (.int .i64)))) g.2.2.2))), (33, [], .v (.c (.p (.int .i64) (g.2.2.2.length : Int)))), (34, [], .v (.c (.p (.int .i64) (0 : Int))))], [(1, [], .box [.p (.int .i64) g.1, .p (.int .i64) g.2.1, .p (.int .i64) g.2.2.1, .p (.sl (.pr (.int .i64) (.sl (.int .i64)))) g.2.2.2])]⟩ : St)) (by kernel_rfl) ⟨trivial, trivial, trivial, trivial, trivial⟩ ?_
    refine awl_nil ?_
    refine thenQ_n ?_
    refine withJoin (σ := Unit) (fun s => (⟨78, [(1, [], .v (.c (.ptr 1 0)))], [(1, [], .box [.p (.int .i64) g.1, .p (.int .i64) g.2.1, .p (.int .i64) g.2.2.1, .p (.sl (.pr (.int .i64) (.sl (.int .i64)))) g.2.2.2])]⟩ : St)) (fun s => VC18_k1 g K) (fun s h => ?_) (fun rest2 => ?_)
    · have h : VC18_k1 g K := h
      unfold VC18_k1 at h
      refine thenQ_n ?_
      refine aw_seq ?_
      refine aw_seq ?_
      refine aw_region ?_
      refine awl_runp 10 [1, 52] [1] (ob := (True ∧ True ∧ True ∧ True ∧ ((decide (g.2.2.1 < (0 : Int))) = false → True) ∧ ((decide (g.2.2.1 < (0 : Int))) = false → True) ∧ ((decide (g.2.2.1 < (0 : Int))) = false → True) ∧ ((decide (g.2.2.1 < (0 : Int))) = false → True) ∧ ((decide (g.2.2.1 < (0 : Int))) = false → True) ∧ True ∧ True)) (st' := (⟨78, [(1, [], .v (.c (.ptr 1 0))), (52, [], .v (.c (.p .bool ((decide (g.2.2.1 < (0 : Int))) || (decide (g.2.1 ≤ g.2.2.1))))))], [(1, [], .box [.p (.int .i64) g.1, .p (.int .i64) g.2.1, .p (.int .i64) g.2.2.1, .p (.sl (.pr (.int .i64) (.sl (.int .i64)))) g.2.2.2])]⟩ : St)) (by kernel_rfl) ⟨trivial, trivial, trivial, trivial, (fun _ => trivial), (fun _ => trivial), (fun _ => trivial), (fun _ => trivial), (fun _ => trivial), trivial, trivial⟩ ?_
      refine awl_nil ?_
      refine thenQ_n ?_
      refine aw_cond (b := ((decide (g.2.2.1 < (0 : Int))) || (decide (g.2.1 ≤ g.2.2.1)))) (by kernel_rfl) (fun hb => ?_) (fun hb => ?_)
      · have h := h.1 hb
        refine aw_seq ?_
        refine aw_region ?_
        refine awl_runp 1 [2] [] (ob := (True ∧ True)) (st' := (⟨78, [(2, [], .v (.c (.p (.int .i64) (2 : Int))))], []⟩ : St)) (by kernel_rfl) ⟨trivial, trivial⟩ ?_
        refine awl_nil ?_
        refine thenQ_n ?_
        refine aw_ret ?_
        refine thenQ_r ?_
        exact retQ_r (σ := Int) (R := (fun y => [toV1 (.int .i64) y])) (ob := (True ∧ True)) (2 : Int) (by kernel_rfl) ⟨trivial, trivial⟩ h
      · have h := h.2 hb
        refine aw_skip ?_
        refine thenQ_n ?_
        refine aw_seq ?_
        refine aw_seq ?_
        refine aw_region ?_
        refine awl_runp 4 [1, 54, 55, 56] [1] (ob := (True ∧ True ∧ True ∧ True ∧ True)) (st' := (⟨78, [(1, [], .v (.c (.ptr 1 0))), (54, [], .v (.c (.p (.sl (.pr (.int .i64) (.sl (.int .i64)))) g.2.2.2))), (55, [], .v (.c (.p (.int .i64) (g.2.2.2.length : Int)))), (56, [], .v (.c (.p (.int .i64) (0 : Int))))], [(1, [], .box [.p (.int .i64) g.1, .p (.int .i64) g.2.1, .p (.int .i64) g.2.2.1, .p (.sl (.pr (.int .i64) (.sl (.int .i64)))) g.2.2.2])]⟩ : St)) (by kernel_rfl) ⟨trivial, trivial, trivial, trivial, trivial⟩ ?_
        refine awl_nil ?_
        refine thenQ_n ?_
        refine withJoin (σ := Unit) (fun s => (⟨78, [], []⟩ : St)) (fun s => VC18_k2 K) (fun s h => ?_) (fun rest1 => ?_)
        · have h : VC18_k2 K := h
          unfold VC18_k2 at h
          refine thenQ_n ?_
          refine aw_seq ?_
          refine aw_region ?_
          refine awl_runp 1 [2] [] (ob := (True ∧ True)) (st' := (⟨78, [(2, [], .v (.c (.p (.int .i64) (0 : Int))))], []⟩ : St)) (by kernel_rfl) ⟨trivial, trivial⟩ ?_
          refine awl_nil ?_
          refine thenQ_n ?_
          refine aw_ret ?_
          exact retQ_r (σ := Int) (R := (fun y => [toV1 (.int .i64) y])) (ob := (True ∧ True)) (0 : Int) (by kernel_rfl) ⟨trivial, trivial⟩ h
        · refine aw_block ?_
          refine aw_loop (σ := Int) (fun s => (⟨78, [(1, [], .v (.c (.ptr 1 0))), (54, [], .v (.c (.p (.sl (.pr (.int .i64) (.sl (.int .i64)))) g.2.2.2))), (55, [], .v (.c (.p (.int .i64) (g.2.2.2.length : Int)))), (56, [], .v (.c (.p (.int .i64) s)))], [(1, [], .box [.p (.int .i64) g.1, .p (.int .i64) g.2.1, .p (.int .i64) g.2.2.1, .p (.sl (.pr (.int .i64) (.sl (.int .i64)))) g.2.2.2])]⟩ : St)) (fun s X => VC18_l1 g K s X) (s0 := (0 : Int)) (fun v56 X1 h => ?_) h
          have h : VC18_l1 g K v56 X1 := h
          unfold VC18_l1 at h
          refine aw_seq ?_
          refine aw_region ?_
          refine awl_runp 1 [1, 54, 55, 56, 57] [1] (ob := (True ∧ True)) (st' := (⟨78, [(1, [], .v (.c (.ptr 1 0))), (54, [], .v (.c (.p (.sl (.pr (.int .i64) (.sl (.int .i64)))) g.2.2.2))), (55, [], .v (.c (.p (.int .i64) (g.2.2.2.length : Int)))), (56, [], .v (.c (.p (.int .i64) v56))), (57, [], .v (.c (.p .bool (decide (v56 < (g.2.2.2.length : Int))))))], [(1, [], .box [.p (.int .i64) g.1, .p (.int .i64) g.2.1, .p (.int .i64) g.2.2.1, .p (.sl (.pr (.int .i64) (.sl (.int .i64)))) g.2.2.2])]⟩ : St)) (by kernel_rfl) ⟨trivial, trivial⟩ ?_
          refine awl_nil ?_
          refine thenQ_n ?_
          refine aw_seq ?_
          refine aw_cond (b := (decide (v56 < (g.2.2.2.length : Int)))) (by kernel_rfl) (fun hb => ?_) (fun hb => ?_)
          · have h := h.1 hb
            refine aw_skip ?_
            refine thenQ_n ?_
            refine aw_seq ?_
            refine aw_block ?_
            refine aw_seq ?_
            refine aw_region ?_
            obtain ⟨o1, h⟩ := h
            refine awl_runp 4 [1, 6, 54, 55, 56] [1, 6] (ob := (inIdx v56 g.2.2.2.length ∧ True ∧ True ∧ True ∧ True)) (st' := (⟨78, [(1, [], .v (.c (.ptr 1 0))), (6, [], .v (.c (.ptr 6 0))), (54, [], .v (.c (.p (.sl (.pr (.int .i64) (.sl (.int .i64)))) g.2.2.2))), (55, [], .v (.c (.p (.int .i64) (g.2.2.2.length : Int)))), (56, [], .v (.c (.p (.int .i64) v56)))], [(1, [], .box [.p (.int .i64) g.1, .p (.int .i64) g.2.1, .p (.int .i64) g.2.2.1, .p (.sl (.pr (.int .i64) (.sl (.int .i64)))) g.2.2.2]), (6, [], .box [.p (.int .i64) ((g.2.2.2.getD (v56).toNat ((0 : Int), ([] : (List Int)))).1), .p (.sl (.int .i64)) ((g.2.2.2.getD (v56).toNat ((0 : Int), ([] : (List Int)))).2)])]⟩ : St)) (by kernel_rfl) ⟨o1, trivial, trivial, trivial, trivial⟩ ?_
            refine awl_nil ?_
            refine thenQ_n ?_
            refine aw_seq ?_
            refine aw_region ?_
            refine awl_runp 14 [1, 54, 55, 56, 70, 71, 73] [1] (ob := (True ∧ True ∧ True ∧ True ∧ ((decide ((g.2.2.2.getD (v56).toNat ((0 : Int), ([] : (List Int)))).1 < (0 : Int))) = false → True) ∧ ((decide ((g.2.2.2.getD (v56).toNat ((0 : Int), ([] : (List Int)))).1 < (0 : Int))) = false → True) ∧ ((decide ((g.2.2.2.getD (v56).toNat ((0 : Int), ([] : (List Int)))).1 < (0 : Int))) = false → True) ∧ ((decide ((g.2.2.2.getD (v56).toNat ((0 : Int), ([] : (List Int)))).1 < (0 : Int))) = false → True) ∧ ((decide ((g.2.2.2.getD (v56).toNat ((0 : Int), ([] : (List Int)))).1 < (0 : Int))) = false → True) ∧ True ∧ True ∧ (((decide ((g.2.2.2.getD (v56).toNat ((0 : Int), ([] : (List Int)))).1 < (0 : Int))) || (decide (g.2.1 ≤ (g.2.2.2.getD (v56).toNat ((0 : Int), ([] : (List Int)))).1))) = false → True) ∧ (((decide ((g.2.2.2.getD (v56).toNat ((0 : Int), ([] : (List Int)))).1 < (0 : Int))) || (decide (g.2.1 ≤ (g.2.2.2.getD (v56).toNat ((0 : Int), ([] : (List Int)))).1))) = false → True) ∧ (((decide ((g.2.2.2.getD (v56).toNat ((0 : Int), ([] : (List Int)))).1 < (0 : Int))) || (decide (g.2.1 ≤ (g.2.2.2.getD (v56).toNat ((0 : Int), ([] : (List Int)))).1))) = false → True) ∧ True)) (st' := (⟨78, [(1, [], .v (.c (.ptr 1 0))), (54, [], .v (.c (.p (.sl (.pr (.int .i64) (.sl (.int .i64)))) g.2.2.2))), (55, [], .v (.c (.p (.int .i64) (g.2.2.2.length : Int)))), (56, [], .v (.c (.p (.int .i64) v56))), (70, [], .v (.c (.p .bool ((decide ((g.2.2.2.getD (v56).toNat ((0 : Int), ([] : (List Int)))).1 < (0 : Int))) || (decide (g.2.1 ≤ (g.2.2.2.getD (v56).toNat ((0 : Int), ([] : (List Int)))).1)))))), (71, [(70, false)], .v (.agg [.p (.int .i64) g.1, .p (.int .i64) g.2.1, .p (.int .i64) g.2.2.1, .p (.sl (.pr (.int .i64) (.sl (.int .i64)))) g.2.2.2])), (73, [(70, false)], .v (.c (.p (.sl (.int .i64)) ((g.2.2.2.getD (v56).toNat ((0 : Int), ([] : (List Int)))).2))))], [(1, [], .box [.p (.int .i64) g.1, .p (.int .i64) g.2.1, .p (.int .i64) g.2.2.1, .p (.sl (.pr (.int .i64) (.sl (.int .i64)))) g.2.2.2])]⟩ : St)) (by kernel_rfl) ⟨trivial, trivial, trivial, trivial, (fun _ => trivial), (fun _ => trivial), (fun _ => trivial), (fun _ => trivial), (fun _ => trivial), trivial, trivial, (fun _ => trivial), (fun _ => trivial), (fun _ => trivial), trivial⟩ ?_
            refine awl_callk (p := [(70, false)]) (l := [toV1 (.pr (.int .i64) (.pr (.int .i64) (.pr (.int .i64) (.sl (.pr (.int .i64) (.sl (.int .i64))))))) g, toV1 (.sl (.int .i64)) ((g.2.2.2.getD (v56).toNat ((0 : Int), ([] : (List Int)))).2)]) (cl := []) false [.d (.pr (.int .i64) (.pr (.int .i64) (.pr (.int .i64) (.sl (.pr (.int .i64) (.sl (.int .i64))))))), .d (.sl (.int .i64))] [1, 54, 55, 56, 70, 74] [1] (fun (ret74v : Bool) => (((((decide ((g.2.2.2.getD (v56).toNat ((0 : Int), ([] : (List Int)))).1 < (0 : Int))) || (decide (g.2.1 ≤ (g.2.2.2.getD (v56).toNat ((0 : Int), ([] : (List Int)))).1))) || (!ret74v)) = true → K (2 : Int)) ∧ ((((decide ((g.2.2.2.getD (v56).toNat ((0 : Int), ([] : (List Int)))).1 < (0 : Int))) || (decide (g.2.1 ≤ (g.2.2.2.getD (v56).toNat ((0 : Int), ([] : (List Int)))).1))) || (!ret74v)) = false → (InR (v56 + (1 : Int)) ∧ X1 (v56 + (1 : Int)))))) (fun ret74v => [toV1 .bool ret74v]) (fun ret74v => (⟨78, [(1, [], .v (.c (.ptr 1 0))), (54, [], .v (.c (.p (.sl (.pr (.int .i64) (.sl (.int .i64)))) g.2.2.2))), (55, [], .v (.c (.p (.int .i64) (g.2.2.2.length : Int)))), (56, [], .v (.c (.p (.int .i64) v56))), (70, [], .v (.c (.p .bool ((decide ((g.2.2.2.getD (v56).toNat ((0 : Int), ([] : (List Int)))).1 < (0 : Int))) || (decide (g.2.1 ≤ (g.2.2.2.getD (v56).toNat ((0 : Int), ([] : (List Int)))).1)))))), (74, [(70, false)], .v (.c (.p .bool ret74v)))], [(1, [], .box [.p (.int .i64) g.1, .p (.int .i64) g.2.1, .p (.int .i64) g.2.2.1, .p (.sl (.pr (.int .i64) (.sl (.int .i64)))) g.2.2.2])]⟩ : St)) (by kernel_rfl) rfl (by kernel_rfl) rfl (by kernel_rfl) Try.call43 (by kernel_rfl) (fun ret74v => by kernel_rfl) (fun e => by cases e) (fun hg => link43 g ((g.2.2.2.getD (v56).toNat ((0 : Int), ([] : (List Int)))).2) _ (by have := gcall_T h (show (!((decide ((g.2.2.2.getD (v56).toNat ((0 : Int), ([] : (List Int)))).1 < (0 : Int))) || (decide (g.2.1 ≤ (g.2.2.2.getD (v56).toNat ((0 : Int), ([] : (List Int)))).1)))) = true from hg); exact this)) (fun hg => ⟨false, by have := gcall_F h (show (!((decide ((g.2.2.2.getD (v56).toNat ((0 : Int), ([] : (List Int)))).1 < (0 : Int))) || (decide (g.2.1 ≤ (g.2.2.2.getD (v56).toNat ((0 : Int), ([] : (List Int)))).1)))) = false from hg); exact this⟩) (fun ret74v h => ?_)
            have h : (((((decide ((g.2.2.2.getD (v56).toNat ((0 : Int), ([] : (List Int)))).1 < (0 : Int))) || (decide (g.2.1 ≤ (g.2.2.2.getD (v56).toNat ((0 : Int), ([] : (List Int)))).1))) || (!ret74v)) = true → K (2 : Int)) ∧ ((((decide ((g.2.2.2.getD (v56).toNat ((0 : Int), ([] : (List Int)))).1 < (0 : Int))) || (decide (g.2.1 ≤ (g.2.2.2.getD (v56).toNat ((0 : Int), ([] : (List Int)))).1))) || (!ret74v)) = false → (InR (v56 + (1 : Int)) ∧ X1 (v56 + (1 : Int))))) := h
            refine awl_runp 2 [1, 54, 55, 56, 76] [1] (ob := ((((decide ((g.2.2.2.getD (v56).toNat ((0 : Int), ([] : (List Int)))).1 < (0 : Int))) || (decide (g.2.1 ≤ (g.2.2.2.getD (v56).toNat ((0 : Int), ([] : (List Int)))).1))) = false → True) ∧ True ∧ True)) (st' := (⟨78, [(1, [], .v (.c (.ptr 1 0))), (54, [], .v (.c (.p (.sl (.pr (.int .i64) (.sl (.int .i64)))) g.2.2.2))), (55, [], .v (.c (.p (.int .i64) (g.2.2.2.length : Int)))), (56, [], .v (.c (.p (.int .i64) v56))), (76, [], .v (.c (.p .bool (((decide ((g.2.2.2.getD (v56).toNat ((0 : Int), ([] : (List Int)))).1 < (0 : Int))) || (decide (g.2.1 ≤ (g.2.2.2.getD (v56).toNat ((0 : Int), ([] : (List Int)))).1))) || (!ret74v)))))], [(1, [], .box [.p (.int .i64) g.1, .p (.int .i64) g.2.1, .p (.int .i64) g.2.2.1, .p (.sl (.pr (.int .i64) (.sl (.int .i64)))) g.2.2.2])]⟩ : St)) (by kernel_rfl) ⟨(fun _ => trivial), trivial, trivial⟩ ?_
            refine awl_nil ?_
            refine thenQ_n ?_
            refine aw_cond (b := (((decide ((g.2.2.2.getD (v56).toNat ((0 : Int), ([] : (List Int)))).1 < (0 : Int))) || (decide (g.2.1 ≤ (g.2.2.2.getD (v56).toNat ((0 : Int), ([] : (List Int)))).1))) || (!ret74v))) (by kernel_rfl) (fun hb => ?_) (fun hb => ?_)
            · have h := h.1 hb
              refine aw_seq ?_
              refine aw_region ?_
              refine awl_runp 1 [2] [] (ob := (True ∧ True)) (st' := (⟨78, [(2, [], .v (.c (.p (.int .i64) (2 : Int))))], []⟩ : St)) (by kernel_rfl) ⟨trivial, trivial⟩ ?_
              refine awl_nil ?_
              refine thenQ_n ?_
              refine aw_ret ?_
              refine blockQ_r ?_
              refine thenQ_r ?_
              refine thenQ_r ?_
              refine blockQ_r ?_
              refine thenQ_r ?_
              exact retQ_r (σ := Int) (R := (fun y => [toV1 (.int .i64) y])) (ob := (True ∧ True)) (2 : Int) (by kernel_rfl) ⟨trivial, trivial⟩ h
            · have h := h.2 hb
              refine aw_skip ?_
              refine blockQ_n ?_
              refine thenQ_n ?_
              refine aw_region ?_
              obtain ⟨o1, h⟩ := h
              refine awl_runp 2 [1, 54, 55, 56] [1] (ob := (InR (v56 + (1 : Int)) ∧ True ∧ True)) (st' := (⟨78, [(1, [], .v (.c (.ptr 1 0))), (54, [], .v (.c (.p (.sl (.pr (.int .i64) (.sl (.int .i64)))) g.2.2.2))), (55, [], .v (.c (.p (.int .i64) (g.2.2.2.length : Int)))), (56, [], .v (.c (.p (.int .i64) (v56 + (1 : Int)))))], [(1, [], .box [.p (.int .i64) g.1, .p (.int .i64) g.2.1, .p (.int .i64) g.2.2.1, .p (.sl (.pr (.int .i64) (.sl (.int .i64)))) g.2.2.2])]⟩ : St)) (by kernel_rfl) ⟨o1, trivial, trivial⟩ ?_
              refine awl_nil ?_
              exact thenQ_n ⟨(v56 + (1 : Int)), rfl, h⟩
          · have h := h.2 hb
            refine aw_conv [.prune [] []] (st' := (⟨78, [], []⟩ : St)) (by kernel_rfl) ?_
            refine aw_exit ?_
            refine thenQ_x ?_
            refine thenQ_x ?_
            refine blockQ_hit ?_
            exact rest1 () h
    · refine aw_block ?_
      refine aw_loop (σ := Int) (fun s => (⟨78, [(1, [], .v (.c (.ptr 1 0))), (32, [], .v (.c (.p (.sl (.pr (.int .i64) (.sl (.int .i64)))) g.2.2.2))), (33, [], .v (.c (.p (.int .i64) (g.2.2.2.length : Int)))), (34, [], .v (.c (.p (.int .i64) s)))], [(1, [], .box [.p (.int .i64) g.1, .p (.int .i64) g.2.1, .p (.int .i64) g.2.2.1, .p (.sl (.pr (.int .i64) (.sl (.int .i64)))) g.2.2.2])]⟩ : St)) (fun s X => VC18_l2 g K s X) (s0 := (0 : Int)) (fun v34 X2 h => ?_) h
      have h : VC18_l2 g K v34 X2 := h
      unfold VC18_l2 at h
      refine aw_seq ?_
      refine aw_region ?_
      refine awl_runp 1 [1, 32, 33, 34, 35] [1] (ob := (True ∧ True)) (st' := (⟨78, [(1, [], .v (.c (.ptr 1 0))), (32, [], .v (.c (.p (.sl (.pr (.int .i64) (.sl (.int .i64)))) g.2.2.2))), (33, [], .v (.c (.p (.int .i64) (g.2.2.2.length : Int)))), (34, [], .v (.c (.p (.int .i64) v34))), (35, [], .v (.c (.p .bool (decide (v34 < (g.2.2.2.length : Int))))))], [(1, [], .box [.p (.int .i64) g.1, .p (.int .i64) g.2.1, .p (.int .i64) g.2.2.1, .p (.sl (.pr (.int .i64) (.sl (.int .i64)))) g.2.2.2])]⟩ : St)) (by kernel_rfl) ⟨trivial, trivial⟩ ?_
      refine awl_nil ?_
      refine thenQ_n ?_
      refine aw_seq ?_
      refine aw_cond (b := (decide (v34 < (g.2.2.2.length : Int)))) (by kernel_rfl) (fun hb => ?_) (fun hb => ?_)
      · have h := h.1 hb
        refine aw_skip ?_
        refine thenQ_n ?_
        refine aw_seq ?_
        refine aw_block ?_
        refine aw_seq ?_
        refine aw_region ?_
        obtain ⟨o1, h⟩ := h
        refine awl_runp 4 [1, 4, 32, 33, 34] [1, 4] (ob := (inIdx v34 g.2.2.2.length ∧ True ∧ True ∧ True ∧ True)) (st' := (⟨78, [(1, [], .v (.c (.ptr 1 0))), (4, [], .v (.c (.ptr 4 0))), (32, [], .v (.c (.p (.sl (.pr (.int .i64) (.sl (.int .i64)))) g.2.2.2))), (33, [], .v (.c (.p (.int .i64) (g.2.2.2.length : Int)))), (34, [], .v (.c (.p (.int .i64) v34)))], [(1, [], .box [.p (.int .i64) g.1, .p (.int .i64) g.2.1, .p (.int .i64) g.2.2.1, .p (.sl (.pr (.int .i64) (.sl (.int .i64)))) g.2.2.2]), (4, [], .box [.p (.int .i64) ((g.2.2.2.getD (v34).toNat ((0 : Int), ([] : (List Int)))).1), .p (.sl (.int .i64)) ((g.2.2.2.getD (v34).toNat ((0 : Int), ([] : (List Int)))).2)])]⟩ : St)) (by kernel_rfl) ⟨o1, trivial, trivial, trivial, trivial⟩ ?_
        refine awl_nil ?_
        refine thenQ_n ?_
        refine aw_seq ?_
        refine aw_region ?_
        refine awl_runp 4 [1, 32, 33, 34, 41] [1] (ob := (True ∧ True ∧ True ∧ True ∧ True)) (st' := (⟨78, [(1, [], .v (.c (.ptr 1 0))), (32, [], .v (.c (.p (.sl (.pr (.int .i64) (.sl (.int .i64)))) g.2.2.2))), (33, [], .v (.c (.p (.int .i64) (g.2.2.2.length : Int)))), (34, [], .v (.c (.p (.int .i64) v34))), (41, [], .v (.c (.p .bool (decide ((4 : Int) < (((g.2.2.2.getD (v34).toNat ((0 : Int), ([] : (List Int)))).2).length : Int))))))], [(1, [], .box [.p (.int .i64) g.1, .p (.int .i64) g.2.1, .p (.int .i64) g.2.2.1, .p (.sl (.pr (.int .i64) (.sl (.int .i64)))) g.2.2.2])]⟩ : St)) (by kernel_rfl) ⟨trivial, trivial, trivial, trivial, trivial⟩ ?_
        refine awl_nil ?_
        refine thenQ_n ?_
        refine aw_cond (b := (decide ((4 : Int) < (((g.2.2.2.getD (v34).toNat ((0 : Int), ([] : (List Int)))).2).length : Int)))) (by kernel_rfl) (fun hb => ?_) (fun hb => ?_)
        · have h := h.1 hb
          refine aw_seq ?_
          refine aw_region ?_
          refine awl_runp 1 [2] [] (ob := (True ∧ True)) (st' := (⟨78, [(2, [], .v (.c (.p (.int .i64) (1 : Int))))], []⟩ : St)) (by kernel_rfl) ⟨trivial, trivial⟩ ?_
          refine awl_nil ?_
          refine thenQ_n ?_
          refine aw_ret ?_
          refine blockQ_r ?_
          refine thenQ_r ?_
          refine thenQ_r ?_
          refine blockQ_r ?_
          refine thenQ_r ?_
          exact retQ_r (σ := Int) (R := (fun y => [toV1 (.int .i64) y])) (ob := (True ∧ True)) (1 : Int) (by kernel_rfl) ⟨trivial, trivial⟩ h
        · have h := h.2 hb
          refine aw_skip ?_
          refine blockQ_n ?_
          refine thenQ_n ?_
          refine aw_region ?_
          obtain ⟨o1, h⟩ := h
          refine awl_runp 2 [1, 32, 33, 34] [1] (ob := (InR (v34 + (1 : Int)) ∧ True ∧ True)) (st' := (⟨78, [(1, [], .v (.c (.ptr 1 0))), (32, [], .v (.c (.p (.sl (.pr (.int .i64) (.sl (.int .i64)))) g.2.2.2))), (33, [], .v (.c (.p (.int .i64) (g.2.2.2.length : Int)))), (34, [], .v (.c (.p (.int .i64) (v34 + (1 : Int)))))], [(1, [], .box [.p (.int .i64) g.1, .p (.int .i64) g.2.1, .p (.int .i64) g.2.2.1, .p (.sl (.pr (.int .i64) (.sl (.int .i64)))) g.2.2.2])]⟩ : St)) (by kernel_rfl) ⟨o1, trivial, trivial⟩ ?_
          refine awl_nil ?_
          exact thenQ_n ⟨(v34 + (1 : Int)), rfl, h⟩
      · have h := h.2 hb
        refine aw_conv [.prune [1] [1]] (st' := (⟨78, [(1, [], .v (.c (.ptr 1 0)))], [(1, [], .box [.p (.int .i64) g.1, .p (.int .i64) g.2.1, .p (.int .i64) g.2.2.1, .p (.sl (.pr (.int .i64) (.sl (.int .i64)))) g.2.2.2])]⟩ : St)) (by kernel_rfl) ?_
        refine aw_exit ?_
        refine thenQ_x ?_
        refine thenQ_x ?_
        refine blockQ_hit ?_
        exact rest2 () h

-- coppicer/coppicerref.Bit
def VC19 (w : Int) (i : Int) (K : Bool → Prop) : Prop :=
  ((((decide ((0 : Int) ≤ i)) && (decide (i < (32 : Int)))) = true → 0 ≤ (IntKind.wrap .u64 i)) ∧ K (((decide ((0 : Int) ≤ i)) && (decide (i < (32 : Int)))) && (!decide ((bAnd .u32 w (bShl .u32 (1 : Int) (IntKind.wrap .u64 i))) = (0 : Int)))))

set_option maxHeartbeats 4000000 in
theorem link19 (w : Int) (i : Int) (K : Bool → Prop) (h : VC19 w i K) : ACalls Try.prog 19 [toV1 (.int .u32) w, toV1 (.int .i64) i] (fun res => ∃ y, res = (fun y => [toV1 .bool y]) y ∧ K y) := by
  refine acalls_of_aw [.bool] [.t 4] Try.func19 rfl rfl rfl ?_
  unfold VC19 at h
  refine aw_seq ?_
  refine aw_region ?_
  refine awl_runp 1 [0, 1] [] (ob := (True ∧ True)) (st' := (⟨19, [(0, [], .v (.c (.p (.int .u32) w))), (1, [], .v (.c (.p (.int .i64) i)))], []⟩ : St)) (by kernel_rfl) ⟨trivial, trivial⟩ ?_
  refine awl_nil ?_
  refine thenQ_n ?_
  refine aw_seq ?_
  refine aw_region ?_
  obtain ⟨o1, h⟩ := h
  refine awl_runp 15 [4] [] (ob := (True ∧ True ∧ True ∧ ((decide ((0 : Int) ≤ i)) = true → True) ∧ ((decide ((0 : Int) ≤ i)) = true → True) ∧ True ∧ True ∧ (((decide ((0 : Int) ≤ i)) && (decide (i < (32 : Int)))) = true → True) ∧ (((decide ((0 : Int) ≤ i)) && (decide (i < (32 : Int)))) = true → True) ∧ (((decide ((0 : Int) ≤ i)) && (decide (i < (32 : Int)))) = true → True) ∧ (((decide ((0 : Int) ≤ i)) && (decide (i < (32 : Int)))) = true → 0 ≤ (IntKind.wrap .u64 i)) ∧ (((decide ((0 : Int) ≤ i)) && (decide (i < (32 : Int)))) = true → True) ∧ (((decide ((0 : Int) ≤ i)) && (decide (i < (32 : Int)))) = true → True) ∧ True ∧ True ∧ True)) (st' := (⟨19, [(4, [], .v (.c (.p .bool (((decide ((0 : Int) ≤ i)) && (decide (i < (32 : Int)))) && (!decide ((bAnd .u32 w (bShl .u32 (1 : Int) (IntKind.wrap .u64 i))) = (0 : Int)))))))], []⟩ : St)) (by kernel_rfl) ⟨trivial, trivial, trivial, (fun _ => trivial), (fun _ => trivial), trivial, trivial, (fun _ => trivial), (fun _ => trivial), (fun _ => trivial), o1, (fun _ => trivial), (fun _ => trivial), trivial, trivial, trivial⟩ ?_
  refine awl_nil ?_
  refine thenQ_n ?_
  refine aw_ret ?_
  exact retQ_r (σ := Bool) (R := (fun y => [toV1 .bool y])) (ob := (True ∧ True)) (((decide ((0 : Int) ≤ i)) && (decide (i < (32 : Int)))) && (!decide ((bAnd .u32 w (bShl .u32 (1 : Int) (IntKind.wrap .u64 i))) = (0 : Int)))) (by kernel_rfl) ⟨trivial, trivial⟩ h

end Dec
