/-
  Printed by dec2.py: of each function its plain demand, and that the demand gives the contract.
-/
import Derived.Test.YtfamoglamihdfaaProg
import Derived.Test.YtfamoglamihdfaaDecZ
set_option linter.unusedVariables false
set_option linter.unusedSimpArgs false
set_option maxRecDepth 100000
namespace Dec
open Go Go.RowKit Go.Proofs

-- coppicer/climb.check$1
def VC73 (b : (Int × Bool)) (a1 : (Int × Bool)) (K : Bool → Prop) : Prop :=
  K ((decide (a1.1 = b.1)) && (a1.2 != b.2))

set_option maxHeartbeats 4000000 in
theorem link73 (b : (Int × Bool)) (a1 : (Int × Bool)) (K : Bool → Prop) (h : VC73 b a1 K) : ACalls Try.prog 73 [toV1 (.pr (.int .i64) .bool) b, .c (.ad (.pr (.int .i64) .bool) a1)] (fun res => ∃ y, res = (fun y => [toV1 .bool y]) y ∧ K y) := by
  refine acalls_of_aw [.bool] [.t 3] Try.func73 rfl rfl rfl ?_
  unfold VC73 at h
  refine aw_seq ?_
  refine aw_region ?_
  refine awl_runp 2 [1, 2] [2] (ob := (True ∧ True ∧ True)) (st' := (⟨16, [(1, [], .v (.c (.ad (.pr (.int .i64) .bool) a1))), (2, [], .v (.c (.ptr 2 0)))], [(2, [], .box [.p (.int .i64) b.1, .p .bool b.2])]⟩ : St)) (by kernel_rfl) ⟨trivial, trivial, trivial⟩ ?_
  refine awl_nil ?_
  refine thenQ_n ?_
  refine aw_seq ?_
  refine aw_region ?_
  refine awl_runp 13 [3] [] (ob := (True ∧ True ∧ True ∧ True ∧ True ∧ True ∧ ((decide (a1.1 = b.1)) = true → True) ∧ ((decide (a1.1 = b.1)) = true → True) ∧ ((decide (a1.1 = b.1)) = true → True) ∧ ((decide (a1.1 = b.1)) = true → True) ∧ ((decide (a1.1 = b.1)) = true → True) ∧ True ∧ True ∧ True)) (st' := (⟨16, [(3, [], .v (.c (.p .bool ((decide (a1.1 = b.1)) && (a1.2 != b.2)))))], []⟩ : St)) (by kernel_rfl) ⟨trivial, trivial, trivial, trivial, trivial, trivial, (fun _ => trivial), (fun _ => trivial), (fun _ => trivial), (fun _ => trivial), (fun _ => trivial), trivial, trivial, trivial⟩ ?_
  refine awl_nil ?_
  refine thenQ_n ?_
  refine aw_ret ?_
  exact retQ_r (σ := Bool) (R := (fun y => [toV1 .bool y])) (ob := (True ∧ True)) ((decide (a1.1 = b.1)) && (a1.2 != b.2)) (by kernel_rfl) ⟨trivial, trivial⟩ h

-- slices.IndexFunc[[]coppicer/api.Op,coppicer/api.Op]
def VC80_k1 (K : Int → Prop) : Prop :=
  K (-1 : Int)

def VC80_l1 (sv : (List (Int × Bool))) (F1 : (Int × Bool) → (Bool → Prop) → Prop) (K : Int → Prop) (v8 : Int) (X1 : Int → Prop) : Prop :=
  (((decide (v8 < (sv.length : Int))) = true → (inIdx v8 sv.length ∧ F1 (sv.getD (v8).toNat ((0 : Int), false)) (fun (ret16v : Bool) => ((ret16v = true → K v8) ∧ (ret16v = false → (InR (v8 + (1 : Int)) ∧ X1 (v8 + (1 : Int)))))))) ∧ ((decide (v8 < (sv.length : Int))) = false → VC80_k1 K))

def VC80 (sv : (List (Int × Bool))) (F1 : (Int × Bool) → (Bool → Prop) → Prop) (K : Int → Prop) : Prop :=
  Loop (σ := Int) (fun s X => VC80_l1 sv F1 K s X) (0 : Int)

set_option maxHeartbeats 4000000 in
theorem link80 (sv : (List (Int × Bool))) (fv1 : FuncId) (cv1 : List Dat) (F1 : (Int × Bool) → (Bool → Prop) → Prop) (hF1 : FnIs Try.prog fv1 cv1 (fun (x : (Int × Bool)) => [toV1 (.pr (.int .i64) .bool) x]) (fun (y : Bool) => [toV1 .bool y]) F1) (K : Int → Prop) (h : VC80 sv F1 K) : ACalls Try.prog 80 [toV1 (.sl (.pr (.int .i64) .bool)) sv, .c (.fn fv1 cv1)] (fun res => ∃ y, res = (fun y => [toV1 (.int .i64) y]) y ∧ K y) := by
  refine acalls_of_aw [(.int .i64)] [.t 4] Try.func80 rfl rfl rfl ?_
  unfold VC80 at h
  refine aw_seq ?_
  refine aw_region ?_
  refine awl_runp 1 [0, 1] [] (ob := (True ∧ True)) (st' := (⟨19, [(0, [], .v (.c (.p (.sl (.pr (.int .i64) .bool)) sv))), (1, [], .v (.c (.fn fv1 cv1)))], []⟩ : St)) (by kernel_rfl) ⟨trivial, trivial⟩ ?_
  refine awl_nil ?_
  refine thenQ_n ?_
  refine aw_seq ?_
  refine aw_seq ?_
  refine aw_region ?_
  refine awl_runp 3 [0, 1, 7, 8] [] (ob := (True ∧ True ∧ True ∧ True)) (st' := (⟨19, [(0, [], .v (.c (.p (.sl (.pr (.int .i64) .bool)) sv))), (1, [], .v (.c (.fn fv1 cv1))), (7, [], .v (.c (.p (.int .i64) (sv.length : Int)))), (8, [], .v (.c (.p (.int .i64) (0 : Int))))], []⟩ : St)) (by kernel_rfl) ⟨trivial, trivial, trivial, trivial⟩ ?_
  refine awl_nil ?_
  refine thenQ_n ?_
  refine withJoin (σ := Unit) (fun s => (⟨19, [], []⟩ : St)) (fun s => VC80_k1 K) (fun s h => ?_) (fun rest1 => ?_)
  · have h : VC80_k1 K := h
    unfold VC80_k1 at h
    refine thenQ_n ?_
    refine aw_seq ?_
    refine aw_region ?_
    refine awl_runp 1 [4] [] (ob := (True ∧ True)) (st' := (⟨19, [(4, [], .v (.c (.p (.int .i64) (-1 : Int))))], []⟩ : St)) (by kernel_rfl) ⟨trivial, trivial⟩ ?_
    refine awl_nil ?_
    refine thenQ_n ?_
    refine aw_ret ?_
    exact retQ_r (σ := Int) (R := (fun y => [toV1 (.int .i64) y])) (ob := (True ∧ True)) (-1 : Int) (by kernel_rfl) ⟨trivial, trivial⟩ h
  · refine aw_block ?_
    refine aw_loop (σ := Int) (fun s => (⟨19, [(0, [], .v (.c (.p (.sl (.pr (.int .i64) .bool)) sv))), (1, [], .v (.c (.fn fv1 cv1))), (7, [], .v (.c (.p (.int .i64) (sv.length : Int)))), (8, [], .v (.c (.p (.int .i64) s)))], []⟩ : St)) (fun s X => VC80_l1 sv F1 K s X) (s0 := (0 : Int)) (fun v8 X1 h => ?_) h
    have h : VC80_l1 sv F1 K v8 X1 := h
    unfold VC80_l1 at h
    refine aw_seq ?_
    refine aw_region ?_
    refine awl_runp 1 [0, 1, 7, 8, 9] [] (ob := (True ∧ True)) (st' := (⟨19, [(0, [], .v (.c (.p (.sl (.pr (.int .i64) .bool)) sv))), (1, [], .v (.c (.fn fv1 cv1))), (7, [], .v (.c (.p (.int .i64) (sv.length : Int)))), (8, [], .v (.c (.p (.int .i64) v8))), (9, [], .v (.c (.p .bool (decide (v8 < (sv.length : Int))))))], []⟩ : St)) (by kernel_rfl) ⟨trivial, trivial⟩ ?_
    refine awl_nil ?_
    refine thenQ_n ?_
    refine aw_seq ?_
    refine aw_cond (b := (decide (v8 < (sv.length : Int)))) (by kernel_rfl) (fun hb => ?_) (fun hb => ?_)
    · have h := h.1 hb
      refine aw_skip ?_
      refine thenQ_n ?_
      refine aw_seq ?_
      refine aw_block ?_
      refine aw_seq ?_
      refine aw_region ?_
      refine awl_runp 2 [0, 1, 5, 7, 8] [] (ob := (True ∧ True ∧ True)) (st' := (⟨19, [(0, [], .v (.c (.p (.sl (.pr (.int .i64) .bool)) sv))), (1, [], .v (.c (.fn fv1 cv1))), (5, [], .v (.c (.p (.int .i64) v8))), (7, [], .v (.c (.p (.int .i64) (sv.length : Int)))), (8, [], .v (.c (.p (.int .i64) v8)))], []⟩ : St)) (by kernel_rfl) ⟨trivial, trivial, trivial⟩ ?_
      refine awl_nil ?_
      refine thenQ_n ?_
      refine aw_seq ?_
      refine aw_region ?_
      obtain ⟨o1, h⟩ := h
      refine awl_runp 5 [0, 1, 5, 7, 8, 11, 15] [] (ob := (True ∧ True ∧ True ∧ inIdx v8 sv.length ∧ True ∧ True)) (st' := (⟨19, [(0, [], .v (.c (.p (.sl (.pr (.int .i64) .bool)) sv))), (1, [], .v (.c (.fn fv1 cv1))), (5, [], .v (.c (.p (.int .i64) v8))), (7, [], .v (.c (.p (.int .i64) (sv.length : Int)))), (8, [], .v (.c (.p (.int .i64) v8))), (11, [], .v (.c (.fn fv1 cv1))), (15, [], .v (.agg [.p (.int .i64) ((sv.getD (v8).toNat ((0 : Int), false)).1), .p .bool ((sv.getD (v8).toNat ((0 : Int), false)).2)]))], []⟩ : St)) (by kernel_rfl) ⟨trivial, trivial, trivial, o1, trivial, trivial⟩ ?_
      refine awl_callk (p := []) (l := [toV1 (.pr (.int .i64) .bool) (sv.getD (v8).toNat ((0 : Int), false))]) false [.d (.pr (.int .i64) .bool)] [0, 1, 5, 7, 8, 16] [] (fun (ret16v : Bool) => ((ret16v = true → K v8) ∧ (ret16v = false → (InR (v8 + (1 : Int)) ∧ X1 (v8 + (1 : Int)))))) (fun ret16v => [toV1 .bool ret16v]) (fun ret16v => (⟨19, [(0, [], .v (.c (.p (.sl (.pr (.int .i64) .bool)) sv))), (1, [], .v (.c (.fn fv1 cv1))), (5, [], .v (.c (.p (.int .i64) v8))), (7, [], .v (.c (.p (.int .i64) (sv.length : Int)))), (8, [], .v (.c (.p (.int .i64) v8))), (16, [], .v (.c (.p .bool ret16v)))], []⟩ : St)) (by kernel_rfl) rfl (by kernel_rfl) rfl (by kernel_rfl) hF1.1 (by kernel_rfl) (fun ret16v => by kernel_rfl) (fun e => by cases e) (fun hg => hF1.2 (sv.getD (v8).toNat ((0 : Int), false)) _ h) (fun hg => noF hg) (fun ret16v h => ?_)
      have h : ((ret16v = true → K v8) ∧ (ret16v = false → (InR (v8 + (1 : Int)) ∧ X1 (v8 + (1 : Int))))) := h
      refine awl_nil ?_
      refine thenQ_n ?_
      refine aw_cond (b := ret16v) (by kernel_rfl) (fun hb => ?_) (fun hb => ?_)
      · have h := h.1 hb
        refine aw_seq ?_
        refine aw_region ?_
        refine awl_runp 2 [4] [] (ob := (True ∧ True ∧ True)) (st' := (⟨19, [(4, [], .v (.c (.p (.int .i64) v8)))], []⟩ : St)) (by kernel_rfl) ⟨trivial, trivial, trivial⟩ ?_
        refine awl_nil ?_
        refine thenQ_n ?_
        refine aw_ret ?_
        refine blockQ_r ?_
        refine thenQ_r ?_
        refine thenQ_r ?_
        refine blockQ_r ?_
        refine thenQ_r ?_
        exact retQ_r (σ := Int) (R := (fun y => [toV1 (.int .i64) y])) (ob := (True ∧ True)) v8 (by kernel_rfl) ⟨trivial, trivial⟩ h
      · have h := h.2 hb
        refine aw_skip ?_
        refine blockQ_n ?_
        refine thenQ_n ?_
        refine aw_region ?_
        obtain ⟨o1, h⟩ := h
        refine awl_runp 2 [0, 1, 7, 8] [] (ob := (InR (v8 + (1 : Int)) ∧ True ∧ True)) (st' := (⟨19, [(0, [], .v (.c (.p (.sl (.pr (.int .i64) .bool)) sv))), (1, [], .v (.c (.fn fv1 cv1))), (7, [], .v (.c (.p (.int .i64) (sv.length : Int)))), (8, [], .v (.c (.p (.int .i64) (v8 + (1 : Int)))))], []⟩ : St)) (by kernel_rfl) ⟨o1, trivial, trivial⟩ ?_
        refine awl_nil ?_
        exact thenQ_n ⟨(v8 + (1 : Int)), rfl, h⟩
    · have h := h.2 hb
      refine aw_conv [.prune [] []] (st' := (⟨19, [], []⟩ : St)) (by kernel_rfl) ?_
      refine aw_exit ?_
      refine thenQ_x ?_
      refine thenQ_x ?_
      refine blockQ_hit ?_
      exact rest1 () h

-- slices.ContainsFunc[[]coppicer/api.Op,coppicer/api.Op]
def VC72 (sv : (List (Int × Bool))) (F1 : (Int × Bool) → (Bool → Prop) → Prop) (K : Bool → Prop) : Prop :=
  VC80 sv F1 (fun (ret7v : Int) => K (decide ((0 : Int) ≤ ret7v)))

set_option maxHeartbeats 4000000 in
theorem link72 (sv : (List (Int × Bool))) (fv1 : FuncId) (cv1 : List Dat) (F1 : (Int × Bool) → (Bool → Prop) → Prop) (hF1 : FnIs Try.prog fv1 cv1 (fun (x : (Int × Bool)) => [toV1 (.pr (.int .i64) .bool) x]) (fun (y : Bool) => [toV1 .bool y]) F1) (K : Bool → Prop) (h : VC72 sv F1 K) : ACalls Try.prog 72 [toV1 (.sl (.pr (.int .i64) .bool)) sv, .c (.fn fv1 cv1)] (fun res => ∃ y, res = (fun y => [toV1 .bool y]) y ∧ K y) := by
  refine acalls_of_aw [.bool] [.t 4] Try.func72 rfl rfl rfl ?_
  unfold VC72 at h
  refine aw_seq ?_
  refine aw_region ?_
  refine awl_runp 1 [0, 1] [] (ob := (True ∧ True)) (st' := (⟨9, [(0, [], .v (.c (.p (.sl (.pr (.int .i64) .bool)) sv))), (1, [], .v (.c (.fn fv1 cv1)))], []⟩ : St)) (by kernel_rfl) ⟨trivial, trivial⟩ ?_
  refine awl_nil ?_
  refine thenQ_n ?_
  refine aw_seq ?_
  refine aw_region ?_
  refine awl_runp 2 [5, 6] [] (ob := (True ∧ True ∧ True)) (st' := (⟨9, [(5, [], .v (.c (.p (.sl (.pr (.int .i64) .bool)) sv))), (6, [], .v (.c (.fn fv1 cv1)))], []⟩ : St)) (by kernel_rfl) ⟨trivial, trivial, trivial⟩ ?_
  refine awl_callk (p := []) (l := [toV1 (.sl (.pr (.int .i64) .bool)) sv, .c (.fn fv1 cv1)]) (cl := []) false [.d (.sl (.pr (.int .i64) .bool)), .fn] [7] [] (fun (ret7v : Int) => K (decide ((0 : Int) ≤ ret7v))) (fun ret7v => [toV1 (.int .i64) ret7v]) (fun ret7v => (⟨9, [(7, [], .v (.c (.p (.int .i64) ret7v)))], []⟩ : St)) (by kernel_rfl) rfl (by kernel_rfl) rfl (by kernel_rfl) Try.call80 (by kernel_rfl) (fun ret7v => by kernel_rfl) (fun e => by cases e) (fun hg => link80 sv fv1 cv1 F1 hF1 _ h) (fun hg => noF hg) (fun ret7v h => ?_)
  have h : K (decide ((0 : Int) ≤ ret7v)) := h
  refine awl_runp 2 [4] [] (ob := (True ∧ True ∧ True)) (st' := (⟨9, [(4, [], .v (.c (.p .bool (decide ((0 : Int) ≤ ret7v)))))], []⟩ : St)) (by kernel_rfl) ⟨trivial, trivial, trivial⟩ ?_
  refine awl_nil ?_
  refine thenQ_n ?_
  refine aw_ret ?_
  exact retQ_r (σ := Bool) (R := (fun y => [toV1 .bool y])) (ob := (True ∧ True)) (decide ((0 : Int) ≤ ret7v)) (by kernel_rfl) ⟨trivial, trivial⟩ h

-- coppicer/climb.check$2
def VC74 (sv : Int) (a1 : (List (Int × Bool))) (a2 : Bool) (K : Bool → Prop) : Prop :=
  K (((!((decide ((0 : Int) ≤ sv)) && (decide (sv < (a1.length : Int))))) && (decide (sv < (100 : Int)))) && (!(((decide (sv = (-1 : Int))) || (decide (sv = (-2 : Int)))) && a2)))

set_option maxHeartbeats 4000000 in
theorem link74 (sv : Int) (a1 : (List (Int × Bool))) (a2 : Bool) (K : Bool → Prop) (h : VC74 sv a1 a2 K) : ACalls Try.prog 74 [toV1 (.int .i64) sv, .c (.ad (.sl (.pr (.int .i64) .bool)) a1), .c (.ad .bool a2)] (fun res => ∃ y, res = (fun y => [toV1 .bool y]) y ∧ K y) := by
  refine acalls_of_aw [.bool] [.t 4] Try.func74 rfl rfl rfl ?_
  unfold VC74 at h
  refine aw_seq ?_
  refine aw_region ?_
  refine awl_runp 1 [0, 1, 2] [] (ob := (True ∧ True)) (st' := (⟨32, [(0, [], .v (.c (.p (.int .i64) sv))), (1, [], .v (.c (.ad (.sl (.pr (.int .i64) .bool)) a1))), (2, [], .v (.c (.ad .bool a2)))], []⟩ : St)) (by kernel_rfl) ⟨trivial, trivial⟩ ?_
  refine awl_nil ?_
  refine thenQ_n ?_
  refine aw_seq ?_
  refine aw_region ?_
  refine awl_runp 7 [0, 1, 2, 5] [] (ob := (True ∧ True ∧ True ∧ ((decide (sv = (-1 : Int))) = false → True) ∧ ((decide (sv = (-1 : Int))) = false → True) ∧ True ∧ True ∧ True)) (st' := (⟨32, [(0, [], .v (.c (.p (.int .i64) sv))), (1, [], .v (.c (.ad (.sl (.pr (.int .i64) .bool)) a1))), (2, [], .v (.c (.ad .bool a2))), (5, [], .v (.c (.p .bool ((decide (sv = (-1 : Int))) || (decide (sv = (-2 : Int)))))))], []⟩ : St)) (by kernel_rfl) ⟨trivial, trivial, trivial, (fun _ => trivial), (fun _ => trivial), trivial, trivial, trivial⟩ ?_
  refine awl_nil ?_
  refine thenQ_n ?_
  refine aw_seq ?_
  refine aw_region ?_
  refine awl_runp 21 [4] [] (ob := (True ∧ True ∧ True ∧ ((decide ((0 : Int) ≤ sv)) = true → True) ∧ ((decide ((0 : Int) ≤ sv)) = true → True) ∧ ((decide ((0 : Int) ≤ sv)) = true → True) ∧ ((decide ((0 : Int) ≤ sv)) = true → True) ∧ True ∧ True ∧ True ∧ ((!((decide ((0 : Int) ≤ sv)) && (decide (sv < (a1.length : Int))))) = true → True) ∧ ((!((decide ((0 : Int) ≤ sv)) && (decide (sv < (a1.length : Int))))) = true → True) ∧ True ∧ True ∧ (((!((decide ((0 : Int) ≤ sv)) && (decide (sv < (a1.length : Int))))) && (decide (sv < (100 : Int)))) = true → True) ∧ (((!((decide ((0 : Int) ≤ sv)) && (decide (sv < (a1.length : Int))))) && (decide (sv < (100 : Int)))) = true → True) ∧ (((!((decide ((0 : Int) ≤ sv)) && (decide (sv < (a1.length : Int))))) && (decide (sv < (100 : Int)))) = true → (((decide (sv = (-1 : Int))) || (decide (sv = (-2 : Int)))) = true → True)) ∧ (((!((decide ((0 : Int) ≤ sv)) && (decide (sv < (a1.length : Int))))) && (decide (sv < (100 : Int)))) = true → True) ∧ (((!((decide ((0 : Int) ≤ sv)) && (decide (sv < (a1.length : Int))))) && (decide (sv < (100 : Int)))) = true → True) ∧ True ∧ True ∧ True)) (st' := (⟨32, [(4, [], .v (.c (.p .bool (((!((decide ((0 : Int) ≤ sv)) && (decide (sv < (a1.length : Int))))) && (decide (sv < (100 : Int)))) && (!(((decide (sv = (-1 : Int))) || (decide (sv = (-2 : Int)))) && a2))))))], []⟩ : St)) (by kernel_rfl) ⟨trivial, trivial, trivial, (fun _ => trivial), (fun _ => trivial), (fun _ => trivial), (fun _ => trivial), trivial, trivial, trivial, (fun _ => trivial), (fun _ => trivial), trivial, trivial, (fun _ => trivial), (fun _ => trivial), (fun _ _ => trivial), (fun _ => trivial), (fun _ => trivial), trivial, trivial, trivial⟩ ?_
  refine awl_nil ?_
  refine thenQ_n ?_
  refine aw_ret ?_
  exact retQ_r (σ := Bool) (R := (fun y => [toV1 .bool y])) (ob := (True ∧ True)) (((!((decide ((0 : Int) ≤ sv)) && (decide (sv < (a1.length : Int))))) && (decide (sv < (100 : Int)))) && (!(((decide (sv = (-1 : Int))) || (decide (sv = (-2 : Int)))) && a2))) (by kernel_rfl) ⟨trivial, trivial⟩ h

-- slices.IndexFunc[[]int,int]
def VC71_k1 (K : Int → Prop) : Prop :=
  K (-1 : Int)

def VC71_l1 (sv : (List Int)) (F1 : Int → (Bool → Prop) → Prop) (K : Int → Prop) (v8 : Int) (X1 : Int → Prop) : Prop :=
  (((decide (v8 < (sv.length : Int))) = true → (inIdx v8 sv.length ∧ F1 (sv.getD (v8).toNat (0 : Int)) (fun (ret16v : Bool) => ((ret16v = true → K v8) ∧ (ret16v = false → (InR (v8 + (1 : Int)) ∧ X1 (v8 + (1 : Int)))))))) ∧ ((decide (v8 < (sv.length : Int))) = false → VC71_k1 K))

def VC71 (sv : (List Int)) (F1 : Int → (Bool → Prop) → Prop) (K : Int → Prop) : Prop :=
  Loop (σ := Int) (fun s X => VC71_l1 sv F1 K s X) (0 : Int)

set_option maxHeartbeats 4000000 in
theorem link71 (sv : (List Int)) (fv1 : FuncId) (cv1 : List Dat) (F1 : Int → (Bool → Prop) → Prop) (hF1 : FnIs Try.prog fv1 cv1 (fun (x : Int) => [toV1 (.int .i64) x]) (fun (y : Bool) => [toV1 .bool y]) F1) (K : Int → Prop) (h : VC71 sv F1 K) : ACalls Try.prog 71 [toV1 (.sl (.int .i64)) sv, .c (.fn fv1 cv1)] (fun res => ∃ y, res = (fun y => [toV1 (.int .i64) y]) y ∧ K y) := by
  refine acalls_of_aw [(.int .i64)] [.t 4] Try.func71 rfl rfl rfl ?_
  unfold VC71 at h
  refine aw_seq ?_
  refine aw_region ?_
  refine awl_runp 1 [0, 1] [] (ob := (True ∧ True)) (st' := (⟨19, [(0, [], .v (.c (.p (.sl (.int .i64)) sv))), (1, [], .v (.c (.fn fv1 cv1)))], []⟩ : St)) (by kernel_rfl) ⟨trivial, trivial⟩ ?_
  refine awl_nil ?_
  refine thenQ_n ?_
  refine aw_seq ?_
  refine aw_seq ?_
  refine aw_region ?_
  refine awl_runp 3 [0, 1, 7, 8] [] (ob := (True ∧ True ∧ True ∧ True)) (st' := (⟨19, [(0, [], .v (.c (.p (.sl (.int .i64)) sv))), (1, [], .v (.c (.fn fv1 cv1))), (7, [], .v (.c (.p (.int .i64) (sv.length : Int)))), (8, [], .v (.c (.p (.int .i64) (0 : Int))))], []⟩ : St)) (by kernel_rfl) ⟨trivial, trivial, trivial, trivial⟩ ?_
  refine awl_nil ?_
  refine thenQ_n ?_
  refine withJoin (σ := Unit) (fun s => (⟨19, [], []⟩ : St)) (fun s => VC71_k1 K) (fun s h => ?_) (fun rest1 => ?_)
  · have h : VC71_k1 K := h
    unfold VC71_k1 at h
    refine thenQ_n ?_
    refine aw_seq ?_
    refine aw_region ?_
    refine awl_runp 1 [4] [] (ob := (True ∧ True)) (st' := (⟨19, [(4, [], .v (.c (.p (.int .i64) (-1 : Int))))], []⟩ : St)) (by kernel_rfl) ⟨trivial, trivial⟩ ?_
    refine awl_nil ?_
    refine thenQ_n ?_
    refine aw_ret ?_
    exact retQ_r (σ := Int) (R := (fun y => [toV1 (.int .i64) y])) (ob := (True ∧ True)) (-1 : Int) (by kernel_rfl) ⟨trivial, trivial⟩ h
  · refine aw_block ?_
    refine aw_loop (σ := Int) (fun s => (⟨19, [(0, [], .v (.c (.p (.sl (.int .i64)) sv))), (1, [], .v (.c (.fn fv1 cv1))), (7, [], .v (.c (.p (.int .i64) (sv.length : Int)))), (8, [], .v (.c (.p (.int .i64) s)))], []⟩ : St)) (fun s X => VC71_l1 sv F1 K s X) (s0 := (0 : Int)) (fun v8 X1 h => ?_) h
    have h : VC71_l1 sv F1 K v8 X1 := h
    unfold VC71_l1 at h
    refine aw_seq ?_
    refine aw_region ?_
    refine awl_runp 1 [0, 1, 7, 8, 9] [] (ob := (True ∧ True)) (st' := (⟨19, [(0, [], .v (.c (.p (.sl (.int .i64)) sv))), (1, [], .v (.c (.fn fv1 cv1))), (7, [], .v (.c (.p (.int .i64) (sv.length : Int)))), (8, [], .v (.c (.p (.int .i64) v8))), (9, [], .v (.c (.p .bool (decide (v8 < (sv.length : Int))))))], []⟩ : St)) (by kernel_rfl) ⟨trivial, trivial⟩ ?_
    refine awl_nil ?_
    refine thenQ_n ?_
    refine aw_seq ?_
    refine aw_cond (b := (decide (v8 < (sv.length : Int)))) (by kernel_rfl) (fun hb => ?_) (fun hb => ?_)
    · have h := h.1 hb
      refine aw_skip ?_
      refine thenQ_n ?_
      refine aw_seq ?_
      refine aw_block ?_
      refine aw_seq ?_
      refine aw_region ?_
      refine awl_runp 2 [0, 1, 5, 7, 8] [] (ob := (True ∧ True ∧ True)) (st' := (⟨19, [(0, [], .v (.c (.p (.sl (.int .i64)) sv))), (1, [], .v (.c (.fn fv1 cv1))), (5, [], .v (.c (.p (.int .i64) v8))), (7, [], .v (.c (.p (.int .i64) (sv.length : Int)))), (8, [], .v (.c (.p (.int .i64) v8)))], []⟩ : St)) (by kernel_rfl) ⟨trivial, trivial, trivial⟩ ?_
      refine awl_nil ?_
      refine thenQ_n ?_
      refine aw_seq ?_
      refine aw_region ?_
      obtain ⟨o1, h⟩ := h
      refine awl_runp 5 [0, 1, 5, 7, 8, 11, 15] [] (ob := (True ∧ True ∧ True ∧ inIdx v8 sv.length ∧ True ∧ True)) (st' := (⟨19, [(0, [], .v (.c (.p (.sl (.int .i64)) sv))), (1, [], .v (.c (.fn fv1 cv1))), (5, [], .v (.c (.p (.int .i64) v8))), (7, [], .v (.c (.p (.int .i64) (sv.length : Int)))), (8, [], .v (.c (.p (.int .i64) v8))), (11, [], .v (.c (.fn fv1 cv1))), (15, [], .v (.c (.p (.int .i64) (sv.getD (v8).toNat (0 : Int)))))], []⟩ : St)) (by kernel_rfl) ⟨trivial, trivial, trivial, o1, trivial, trivial⟩ ?_
      refine awl_callk (p := []) (l := [toV1 (.int .i64) (sv.getD (v8).toNat (0 : Int))]) false [.d (.int .i64)] [0, 1, 5, 7, 8, 16] [] (fun (ret16v : Bool) => ((ret16v = true → K v8) ∧ (ret16v = false → (InR (v8 + (1 : Int)) ∧ X1 (v8 + (1 : Int)))))) (fun ret16v => [toV1 .bool ret16v]) (fun ret16v => (⟨19, [(0, [], .v (.c (.p (.sl (.int .i64)) sv))), (1, [], .v (.c (.fn fv1 cv1))), (5, [], .v (.c (.p (.int .i64) v8))), (7, [], .v (.c (.p (.int .i64) (sv.length : Int)))), (8, [], .v (.c (.p (.int .i64) v8))), (16, [], .v (.c (.p .bool ret16v)))], []⟩ : St)) (by kernel_rfl) rfl (by kernel_rfl) rfl (by kernel_rfl) hF1.1 (by kernel_rfl) (fun ret16v => by kernel_rfl) (fun e => by cases e) (fun hg => hF1.2 (sv.getD (v8).toNat (0 : Int)) _ h) (fun hg => noF hg) (fun ret16v h => ?_)
      have h : ((ret16v = true → K v8) ∧ (ret16v = false → (InR (v8 + (1 : Int)) ∧ X1 (v8 + (1 : Int))))) := h
      refine awl_nil ?_
      refine thenQ_n ?_
      refine aw_cond (b := ret16v) (by kernel_rfl) (fun hb => ?_) (fun hb => ?_)
      · have h := h.1 hb
        refine aw_seq ?_
        refine aw_region ?_
        refine awl_runp 2 [4] [] (ob := (True ∧ True ∧ True)) (st' := (⟨19, [(4, [], .v (.c (.p (.int .i64) v8)))], []⟩ : St)) (by kernel_rfl) ⟨trivial, trivial, trivial⟩ ?_
        refine awl_nil ?_
        refine thenQ_n ?_
        refine aw_ret ?_
        refine blockQ_r ?_
        refine thenQ_r ?_
        refine thenQ_r ?_
        refine blockQ_r ?_
        refine thenQ_r ?_
        exact retQ_r (σ := Int) (R := (fun y => [toV1 (.int .i64) y])) (ob := (True ∧ True)) v8 (by kernel_rfl) ⟨trivial, trivial⟩ h
      · have h := h.2 hb
        refine aw_skip ?_
        refine blockQ_n ?_
        refine thenQ_n ?_
        refine aw_region ?_
        obtain ⟨o1, h⟩ := h
        refine awl_runp 2 [0, 1, 7, 8] [] (ob := (InR (v8 + (1 : Int)) ∧ True ∧ True)) (st' := (⟨19, [(0, [], .v (.c (.p (.sl (.int .i64)) sv))), (1, [], .v (.c (.fn fv1 cv1))), (7, [], .v (.c (.p (.int .i64) (sv.length : Int)))), (8, [], .v (.c (.p (.int .i64) (v8 + (1 : Int)))))], []⟩ : St)) (by kernel_rfl) ⟨o1, trivial, trivial⟩ ?_
        refine awl_nil ?_
        exact thenQ_n ⟨(v8 + (1 : Int)), rfl, h⟩
    · have h := h.2 hb
      refine aw_conv [.prune [] []] (st' := (⟨19, [], []⟩ : St)) (by kernel_rfl) ?_
      refine aw_exit ?_
      refine thenQ_x ?_
      refine thenQ_x ?_
      refine blockQ_hit ?_
      exact rest1 () h

-- slices.ContainsFunc[[]int,int]
def VC48 (sv : (List Int)) (F1 : Int → (Bool → Prop) → Prop) (K : Bool → Prop) : Prop :=
  VC71 sv F1 (fun (ret7v : Int) => K (decide ((0 : Int) ≤ ret7v)))

set_option maxHeartbeats 4000000 in
theorem link48 (sv : (List Int)) (fv1 : FuncId) (cv1 : List Dat) (F1 : Int → (Bool → Prop) → Prop) (hF1 : FnIs Try.prog fv1 cv1 (fun (x : Int) => [toV1 (.int .i64) x]) (fun (y : Bool) => [toV1 .bool y]) F1) (K : Bool → Prop) (h : VC48 sv F1 K) : ACalls Try.prog 48 [toV1 (.sl (.int .i64)) sv, .c (.fn fv1 cv1)] (fun res => ∃ y, res = (fun y => [toV1 .bool y]) y ∧ K y) := by
  refine acalls_of_aw [.bool] [.t 4] Try.func48 rfl rfl rfl ?_
  unfold VC48 at h
  refine aw_seq ?_
  refine aw_region ?_
  refine awl_runp 1 [0, 1] [] (ob := (True ∧ True)) (st' := (⟨9, [(0, [], .v (.c (.p (.sl (.int .i64)) sv))), (1, [], .v (.c (.fn fv1 cv1)))], []⟩ : St)) (by kernel_rfl) ⟨trivial, trivial⟩ ?_
  refine awl_nil ?_
  refine thenQ_n ?_
  refine aw_seq ?_
  refine aw_region ?_
  refine awl_runp 2 [5, 6] [] (ob := (True ∧ True ∧ True)) (st' := (⟨9, [(5, [], .v (.c (.p (.sl (.int .i64)) sv))), (6, [], .v (.c (.fn fv1 cv1)))], []⟩ : St)) (by kernel_rfl) ⟨trivial, trivial, trivial⟩ ?_
  refine awl_callk (p := []) (l := [toV1 (.sl (.int .i64)) sv, .c (.fn fv1 cv1)]) (cl := []) false [.d (.sl (.int .i64)), .fn] [7] [] (fun (ret7v : Int) => K (decide ((0 : Int) ≤ ret7v))) (fun ret7v => [toV1 (.int .i64) ret7v]) (fun ret7v => (⟨9, [(7, [], .v (.c (.p (.int .i64) ret7v)))], []⟩ : St)) (by kernel_rfl) rfl (by kernel_rfl) rfl (by kernel_rfl) Try.call71 (by kernel_rfl) (fun ret7v => by kernel_rfl) (fun e => by cases e) (fun hg => link71 sv fv1 cv1 F1 hF1 _ h) (fun hg => noF hg) (fun ret7v h => ?_)
  have h : K (decide ((0 : Int) ≤ ret7v)) := h
  refine awl_runp 2 [4] [] (ob := (True ∧ True ∧ True)) (st' := (⟨9, [(4, [], .v (.c (.p .bool (decide ((0 : Int) ≤ ret7v)))))], []⟩ : St)) (by kernel_rfl) ⟨trivial, trivial, trivial⟩ ?_
  refine awl_nil ?_
  refine thenQ_n ?_
  refine aw_ret ?_
  exact retQ_r (σ := Bool) (R := (fun y => [toV1 .bool y])) (ob := (True ∧ True)) (decide ((0 : Int) ≤ ret7v)) (by kernel_rfl) ⟨trivial, trivial⟩ h

-- coppicer/climb.check
def VC53_k1 (ops : (List (Int × Bool))) (l : (List Int)) (parens : Bool) (K : Int → Prop) : Prop :=
  VC48 l (fun (x : Int) (K : Bool → Prop) => VC74 x ops parens K) (fun (ret32v : Bool) => ((ret32v = true → K (2 : Int)) ∧ (ret32v = false → K (0 : Int))))

def VC53_l1 (ops : (List (Int × Bool))) (l : (List Int)) (parens : Bool) (K : Int → Prop) (v19 : Int) (X1 : Int → Prop) : Prop :=
  (((decide (v19 < (ops.length : Int))) = true → (inIdx v19 ops.length ∧ ((0 ≤ v19 ∧ v19 ≤ (ops.length : Int)) ∧ VC72 (ops.take (v19).toNat) (fun (x : (Int × Bool)) (K : Bool → Prop) => VC73 x (ops.getD (v19).toNat ((0 : Int), false)) K) (fun (ret28v : Bool) => ((ret28v = true → K (3 : Int)) ∧ (ret28v = false → (InR (v19 + (1 : Int)) ∧ X1 (v19 + (1 : Int))))))))) ∧ ((decide (v19 < (ops.length : Int))) = false → VC53_k1 ops l parens K))

def VC53 (ops : (List (Int × Bool))) (l : (List Int)) (parens : Bool) (K : Int → Prop) : Prop :=
  ((((decide ((6 : Int) < (ops.length : Int))) || (decide ((60 : Int) < (l.length : Int)))) = true → K (1 : Int)) ∧ (((decide ((6 : Int) < (ops.length : Int))) || (decide ((60 : Int) < (l.length : Int)))) = false → Loop (σ := Int) (fun s X => VC53_l1 ops l parens K s X) (0 : Int)))

set_option maxHeartbeats 4000000 in
theorem link53 (ops : (List (Int × Bool))) (l : (List Int)) (parens : Bool) (K : Int → Prop) (h : VC53 ops l parens K) : ACalls Try.prog 53 [toV1 (.sl (.pr (.int .i64) .bool)) ops, toV1 (.sl (.int .i64)) l, toV1 .bool parens] (fun res => ∃ y, res = (fun y => [toV1 (.int .i64) y]) y ∧ K y) := by
  refine acalls_of_aw [(.int .i64)] [.t 6] Try.func53 rfl rfl rfl ?_
  unfold VC53 at h
  refine aw_seq ?_
  refine aw_region ?_
  refine awl_runp 3 [1, 3, 5] [3, 5] (ob := (True ∧ True ∧ True ∧ True)) (st' := (⟨33, [(1, [], .v (.c (.p (.sl (.int .i64)) l))), (3, [], .v (.c (.ptr 3 0))), (5, [], .v (.c (.ptr 5 0)))], [(3, [], .box [.p (.sl (.pr (.int .i64) .bool)) ops]), (5, [], .box [.p .bool parens])]⟩ : St)) (by kernel_rfl) ⟨trivial, trivial, trivial, trivial⟩ ?_
  refine awl_nil ?_
  refine thenQ_n ?_
  refine aw_seq ?_
  refine aw_seq ?_
  refine aw_region ?_
  refine awl_runp 8 [1, 3, 5, 16] [3, 5] (ob := (True ∧ True ∧ True ∧ True ∧ ((decide ((6 : Int) < (ops.length : Int))) = false → True) ∧ ((decide ((6 : Int) < (ops.length : Int))) = false → True) ∧ ((decide ((6 : Int) < (ops.length : Int))) = false → True) ∧ True ∧ True)) (st' := (⟨33, [(1, [], .v (.c (.p (.sl (.int .i64)) l))), (3, [], .v (.c (.ptr 3 0))), (5, [], .v (.c (.ptr 5 0))), (16, [], .v (.c (.p .bool ((decide ((6 : Int) < (ops.length : Int))) || (decide ((60 : Int) < (l.length : Int)))))))], [(3, [], .box [.p (.sl (.pr (.int .i64) .bool)) ops]), (5, [], .box [.p .bool parens])]⟩ : St)) (by kernel_rfl) ⟨trivial, trivial, trivial, trivial, (fun _ => trivial), (fun _ => trivial), (fun _ => trivial), trivial, trivial⟩ ?_
  refine awl_nil ?_
  refine thenQ_n ?_
  refine aw_cond (b := ((decide ((6 : Int) < (ops.length : Int))) || (decide ((60 : Int) < (l.length : Int))))) (by kernel_rfl) (fun hb => ?_) (fun hb => ?_)
  · have h := h.1 hb
    refine aw_seq ?_
    refine aw_region ?_
    refine awl_runp 1 [6] [] (ob := (True ∧ True)) (st' := (⟨33, [(6, [], .v (.c (.p (.int .i64) (1 : Int))))], []⟩ : St)) (by kernel_rfl) ⟨trivial, trivial⟩ ?_
    refine awl_nil ?_
    refine thenQ_n ?_
    refine aw_ret ?_
    refine thenQ_r ?_
    exact retQ_r (σ := Int) (R := (fun y => [toV1 (.int .i64) y])) (ob := (True ∧ True)) (1 : Int) (by kernel_rfl) ⟨trivial, trivial⟩ h
  · have h := h.2 hb
    refine aw_skip ?_
    refine thenQ_n ?_
    refine aw_seq ?_
    refine aw_seq ?_
    refine aw_region ?_
    refine awl_runp 3 [1, 3, 5, 17, 18, 19] [3, 5] (ob := (True ∧ True ∧ True ∧ True)) (st' := (⟨33, [(1, [], .v (.c (.p (.sl (.int .i64)) l))), (3, [], .v (.c (.ptr 3 0))), (5, [], .v (.c (.ptr 5 0))), (17, [], .v (.c (.p (.sl (.pr (.int .i64) .bool)) ops))), (18, [], .v (.c (.p (.int .i64) (ops.length : Int)))), (19, [], .v (.c (.p (.int .i64) (0 : Int))))], [(3, [], .box [.p (.sl (.pr (.int .i64) .bool)) ops]), (5, [], .box [.p .bool parens])]⟩ : St)) (by kernel_rfl) ⟨trivial, trivial, trivial, trivial⟩ ?_
    refine awl_nil ?_
    refine thenQ_n ?_
    refine withJoin (σ := Unit) (fun s => (⟨33, [(1, [], .v (.c (.p (.sl (.int .i64)) l))), (3, [], .v (.c (.ptr 3 0))), (5, [], .v (.c (.ptr 5 0)))], [(3, [], .box [.p (.sl (.pr (.int .i64) .bool)) ops]), (5, [], .box [.p .bool parens])]⟩ : St)) (fun s => VC53_k1 ops l parens K) (fun s h => ?_) (fun rest1 => ?_)
    · have h : VC53_k1 ops l parens K := h
      unfold VC53_k1 at h
      refine thenQ_n ?_
      refine aw_seq ?_
      refine aw_seq ?_
      refine aw_region ?_
      refine awl_runp 1 [3, 5, 30] [3, 5] (ob := (True ∧ True)) (st' := (⟨33, [(3, [], .v (.c (.ptr 3 0))), (5, [], .v (.c (.ptr 5 0))), (30, [], .v (.c (.p (.sl (.int .i64)) l)))], [(3, [], .box [.p (.sl (.pr (.int .i64) .bool)) ops]), (5, [], .box [.p .bool parens])]⟩ : St)) (by kernel_rfl) ⟨trivial, trivial⟩ ?_
      refine awl_conv [.freezeB 3 (.sl (.pr (.int .i64) .bool)), .freezeB 5 .bool] (st' := (⟨33, [(3, [], .v (.c (.ad (.sl (.pr (.int .i64) .bool)) ops))), (5, [], .v (.c (.ad .bool parens))), (30, [], .v (.c (.p (.sl (.int .i64)) l)))], []⟩ : St)) (by kernel_rfl) ?_
      refine awl_runp 1 [30, 31] [] (ob := (True ∧ True)) (st' := (⟨33, [(30, [], .v (.c (.p (.sl (.int .i64)) l))), (31, [], .v (.c (.fn 74 [(⟨(.sl (.pr (.int .i64) .bool)), ops⟩ : Dat), (⟨.bool, parens⟩ : Dat)])))], []⟩ : St)) (by kernel_rfl) ⟨trivial, trivial⟩ ?_
      refine awl_callk (p := []) (l := [toV1 (.sl (.int .i64)) l, .c (.fn 74 [(⟨(.sl (.pr (.int .i64) .bool)), ops⟩ : Dat), (⟨.bool, parens⟩ : Dat)])]) (cl := []) false [.d (.sl (.int .i64)), .fn] [32] [] (fun (ret32v : Bool) => ((ret32v = true → K (2 : Int)) ∧ (ret32v = false → K (0 : Int)))) (fun ret32v => [toV1 .bool ret32v]) (fun ret32v => (⟨33, [(32, [], .v (.c (.p .bool ret32v)))], []⟩ : St)) (by kernel_rfl) rfl (by kernel_rfl) rfl (by kernel_rfl) Try.call48 (by kernel_rfl) (fun ret32v => by kernel_rfl) (fun e => by cases e) (fun hg => link48 l 74 [(⟨(.sl (.pr (.int .i64) .bool)), ops⟩ : Dat), (⟨.bool, parens⟩ : Dat)] (fun (x : Int) (K : Bool → Prop) => VC74 x ops parens K) ⟨Try.call74, fun x K h => link74 x ops parens K h⟩ _ h) (fun hg => noF hg) (fun ret32v h => ?_)
      have h : ((ret32v = true → K (2 : Int)) ∧ (ret32v = false → K (0 : Int))) := h
      refine awl_nil ?_
      refine thenQ_n ?_
      refine aw_cond (b := ret32v) (by kernel_rfl) (fun hb => ?_) (fun hb => ?_)
      · have h := h.1 hb
        refine aw_seq ?_
        refine aw_region ?_
        refine awl_runp 1 [6] [] (ob := (True ∧ True)) (st' := (⟨33, [(6, [], .v (.c (.p (.int .i64) (2 : Int))))], []⟩ : St)) (by kernel_rfl) ⟨trivial, trivial⟩ ?_
        refine awl_nil ?_
        refine thenQ_n ?_
        refine aw_ret ?_
        refine thenQ_r ?_
        exact retQ_r (σ := Int) (R := (fun y => [toV1 (.int .i64) y])) (ob := (True ∧ True)) (2 : Int) (by kernel_rfl) ⟨trivial, trivial⟩ h
      · have h := h.2 hb
        refine aw_skip ?_
        refine thenQ_n ?_
        refine aw_seq ?_
        refine aw_region ?_
        refine awl_runp 1 [6] [] (ob := (True ∧ True)) (st' := (⟨33, [(6, [], .v (.c (.p (.int .i64) (0 : Int))))], []⟩ : St)) (by kernel_rfl) ⟨trivial, trivial⟩ ?_
        refine awl_nil ?_
        refine thenQ_n ?_
        refine aw_ret ?_
        exact retQ_r (σ := Int) (R := (fun y => [toV1 (.int .i64) y])) (ob := (True ∧ True)) (0 : Int) (by kernel_rfl) ⟨trivial, trivial⟩ h
    · refine aw_block ?_
      refine aw_loop (σ := Int) (fun s => (⟨33, [(1, [], .v (.c (.p (.sl (.int .i64)) l))), (3, [], .v (.c (.ptr 3 0))), (5, [], .v (.c (.ptr 5 0))), (17, [], .v (.c (.p (.sl (.pr (.int .i64) .bool)) ops))), (18, [], .v (.c (.p (.int .i64) (ops.length : Int)))), (19, [], .v (.c (.p (.int .i64) s)))], [(3, [], .box [.p (.sl (.pr (.int .i64) .bool)) ops]), (5, [], .box [.p .bool parens])]⟩ : St)) (fun s X => VC53_l1 ops l parens K s X) (s0 := (0 : Int)) (fun v19 X1 h => ?_) h
      have h : VC53_l1 ops l parens K v19 X1 := h
      unfold VC53_l1 at h
      refine aw_seq ?_
      refine aw_region ?_
      refine awl_runp 1 [1, 3, 5, 17, 18, 19, 20] [3, 5] (ob := (True ∧ True)) (st' := (⟨33, [(1, [], .v (.c (.p (.sl (.int .i64)) l))), (3, [], .v (.c (.ptr 3 0))), (5, [], .v (.c (.ptr 5 0))), (17, [], .v (.c (.p (.sl (.pr (.int .i64) .bool)) ops))), (18, [], .v (.c (.p (.int .i64) (ops.length : Int)))), (19, [], .v (.c (.p (.int .i64) v19))), (20, [], .v (.c (.p .bool (decide (v19 < (ops.length : Int))))))], [(3, [], .box [.p (.sl (.pr (.int .i64) .bool)) ops]), (5, [], .box [.p .bool parens])]⟩ : St)) (by kernel_rfl) ⟨trivial, trivial⟩ ?_
      refine awl_nil ?_
      refine thenQ_n ?_
      refine aw_seq ?_
      refine aw_cond (b := (decide (v19 < (ops.length : Int)))) (by kernel_rfl) (fun hb => ?_) (fun hb => ?_)
      · have h := h.1 hb
        refine aw_skip ?_
        refine thenQ_n ?_
        refine aw_seq ?_
        refine aw_block ?_
        refine aw_seq ?_
        refine aw_region ?_
        obtain ⟨o1, h⟩ := h
        refine awl_runp 6 [1, 3, 5, 7, 8, 17, 18, 19] [3, 5, 8] (ob := (True ∧ inIdx v19 ops.length ∧ True ∧ True ∧ True ∧ True ∧ True)) (st' := (⟨33, [(1, [], .v (.c (.p (.sl (.int .i64)) l))), (3, [], .v (.c (.ptr 3 0))), (5, [], .v (.c (.ptr 5 0))), (7, [], .v (.c (.p (.int .i64) v19))), (8, [], .v (.c (.ptr 8 0))), (17, [], .v (.c (.p (.sl (.pr (.int .i64) .bool)) ops))), (18, [], .v (.c (.p (.int .i64) (ops.length : Int)))), (19, [], .v (.c (.p (.int .i64) v19)))], [(3, [], .box [.p (.sl (.pr (.int .i64) .bool)) ops]), (5, [], .box [.p .bool parens]), (8, [], .box [.p (.int .i64) ((ops.getD (v19).toNat ((0 : Int), false)).1), .p .bool ((ops.getD (v19).toNat ((0 : Int), false)).2)])]⟩ : St)) (by kernel_rfl) ⟨trivial, o1, trivial, trivial, trivial, trivial, trivial⟩ ?_
        refine awl_nil ?_
        refine thenQ_n ?_
        refine aw_seq ?_
        refine aw_region ?_
        obtain ⟨o1, h⟩ := h
        refine awl_runp 3 [1, 3, 5, 8, 17, 18, 19, 26] [3, 5, 8] (ob := (True ∧ True ∧ (0 ≤ v19 ∧ v19 ≤ (ops.length : Int)) ∧ True)) (st' := (⟨33, [(1, [], .v (.c (.p (.sl (.int .i64)) l))), (3, [], .v (.c (.ptr 3 0))), (5, [], .v (.c (.ptr 5 0))), (8, [], .v (.c (.ptr 8 0))), (17, [], .v (.c (.p (.sl (.pr (.int .i64) .bool)) ops))), (18, [], .v (.c (.p (.int .i64) (ops.length : Int)))), (19, [], .v (.c (.p (.int .i64) v19))), (26, [], .v (.c (.p (.sl (.pr (.int .i64) .bool)) (ops.take (v19).toNat))))], [(3, [], .box [.p (.sl (.pr (.int .i64) .bool)) ops]), (5, [], .box [.p .bool parens]), (8, [], .box [.p (.int .i64) ((ops.getD (v19).toNat ((0 : Int), false)).1), .p .bool ((ops.getD (v19).toNat ((0 : Int), false)).2)])]⟩ : St)) (by kernel_rfl) ⟨trivial, trivial, o1, trivial⟩ ?_
        refine awl_conv [.freezeB 8 (.pr (.int .i64) .bool)] (st' := (⟨33, [(1, [], .v (.c (.p (.sl (.int .i64)) l))), (3, [], .v (.c (.ptr 3 0))), (5, [], .v (.c (.ptr 5 0))), (8, [], .v (.c (.ad (.pr (.int .i64) .bool) (ops.getD (v19).toNat ((0 : Int), false))))), (17, [], .v (.c (.p (.sl (.pr (.int .i64) .bool)) ops))), (18, [], .v (.c (.p (.int .i64) (ops.length : Int)))), (19, [], .v (.c (.p (.int .i64) v19))), (26, [], .v (.c (.p (.sl (.pr (.int .i64) .bool)) (ops.take (v19).toNat))))], [(3, [], .box [.p (.sl (.pr (.int .i64) .bool)) ops]), (5, [], .box [.p .bool parens])]⟩ : St)) (by kernel_rfl) ?_
        refine awl_runp 1 [1, 3, 5, 17, 18, 19, 26, 27] [3, 5] (ob := (True ∧ True)) (st' := (⟨33, [(1, [], .v (.c (.p (.sl (.int .i64)) l))), (3, [], .v (.c (.ptr 3 0))), (5, [], .v (.c (.ptr 5 0))), (17, [], .v (.c (.p (.sl (.pr (.int .i64) .bool)) ops))), (18, [], .v (.c (.p (.int .i64) (ops.length : Int)))), (19, [], .v (.c (.p (.int .i64) v19))), (26, [], .v (.c (.p (.sl (.pr (.int .i64) .bool)) (ops.take (v19).toNat)))), (27, [], .v (.c (.fn 73 [(⟨(.pr (.int .i64) .bool), (ops.getD (v19).toNat ((0 : Int), false))⟩ : Dat)])))], [(3, [], .box [.p (.sl (.pr (.int .i64) .bool)) ops]), (5, [], .box [.p .bool parens])]⟩ : St)) (by kernel_rfl) ⟨trivial, trivial⟩ ?_
        refine awl_callk (p := []) (l := [toV1 (.sl (.pr (.int .i64) .bool)) (ops.take (v19).toNat), .c (.fn 73 [(⟨(.pr (.int .i64) .bool), (ops.getD (v19).toNat ((0 : Int), false))⟩ : Dat)])]) (cl := []) false [.d (.sl (.pr (.int .i64) .bool)), .fn] [1, 3, 5, 17, 18, 19, 28] [3, 5] (fun (ret28v : Bool) => ((ret28v = true → K (3 : Int)) ∧ (ret28v = false → (InR (v19 + (1 : Int)) ∧ X1 (v19 + (1 : Int)))))) (fun ret28v => [toV1 .bool ret28v]) (fun ret28v => (⟨33, [(1, [], .v (.c (.p (.sl (.int .i64)) l))), (3, [], .v (.c (.ptr 3 0))), (5, [], .v (.c (.ptr 5 0))), (17, [], .v (.c (.p (.sl (.pr (.int .i64) .bool)) ops))), (18, [], .v (.c (.p (.int .i64) (ops.length : Int)))), (19, [], .v (.c (.p (.int .i64) v19))), (28, [], .v (.c (.p .bool ret28v)))], [(3, [], .box [.p (.sl (.pr (.int .i64) .bool)) ops]), (5, [], .box [.p .bool parens])]⟩ : St)) (by kernel_rfl) rfl (by kernel_rfl) rfl (by kernel_rfl) Try.call72 (by kernel_rfl) (fun ret28v => by kernel_rfl) (fun e => by cases e) (fun hg => link72 (ops.take (v19).toNat) 73 [(⟨(.pr (.int .i64) .bool), (ops.getD (v19).toNat ((0 : Int), false))⟩ : Dat)] (fun (x : (Int × Bool)) (K : Bool → Prop) => VC73 x (ops.getD (v19).toNat ((0 : Int), false)) K) ⟨Try.call73, fun x K h => link73 x (ops.getD (v19).toNat ((0 : Int), false)) K h⟩ _ h) (fun hg => noF hg) (fun ret28v h => ?_)
        have h : ((ret28v = true → K (3 : Int)) ∧ (ret28v = false → (InR (v19 + (1 : Int)) ∧ X1 (v19 + (1 : Int))))) := h
        refine awl_nil ?_
        refine thenQ_n ?_
        refine aw_cond (b := ret28v) (by kernel_rfl) (fun hb => ?_) (fun hb => ?_)
        · have h := h.1 hb
          refine aw_seq ?_
          refine aw_region ?_
          refine awl_runp 1 [6] [] (ob := (True ∧ True)) (st' := (⟨33, [(6, [], .v (.c (.p (.int .i64) (3 : Int))))], []⟩ : St)) (by kernel_rfl) ⟨trivial, trivial⟩ ?_
          refine awl_nil ?_
          refine thenQ_n ?_
          refine aw_ret ?_
          refine blockQ_r ?_
          refine thenQ_r ?_
          refine thenQ_r ?_
          refine blockQ_r ?_
          refine thenQ_r ?_
          exact retQ_r (σ := Int) (R := (fun y => [toV1 (.int .i64) y])) (ob := (True ∧ True)) (3 : Int) (by kernel_rfl) ⟨trivial, trivial⟩ h
        · have h := h.2 hb
          refine aw_skip ?_
          refine blockQ_n ?_
          refine thenQ_n ?_
          refine aw_region ?_
          obtain ⟨o1, h⟩ := h
          refine awl_runp 2 [1, 3, 5, 17, 18, 19] [3, 5] (ob := (InR (v19 + (1 : Int)) ∧ True ∧ True)) (st' := (⟨33, [(1, [], .v (.c (.p (.sl (.int .i64)) l))), (3, [], .v (.c (.ptr 3 0))), (5, [], .v (.c (.ptr 5 0))), (17, [], .v (.c (.p (.sl (.pr (.int .i64) .bool)) ops))), (18, [], .v (.c (.p (.int .i64) (ops.length : Int)))), (19, [], .v (.c (.p (.int .i64) (v19 + (1 : Int)))))], [(3, [], .box [.p (.sl (.pr (.int .i64) .bool)) ops]), (5, [], .box [.p .bool parens])]⟩ : St)) (by kernel_rfl) ⟨o1, trivial, trivial⟩ ?_
          refine awl_nil ?_
          exact thenQ_n ⟨(v19 + (1 : Int)), rfl, h⟩
      · have h := h.2 hb
        refine aw_conv [.prune [1, 3, 5] [3, 5]] (st' := (⟨33, [(1, [], .v (.c (.p (.sl (.int .i64)) l))), (3, [], .v (.c (.ptr 3 0))), (5, [], .v (.c (.ptr 5 0)))], [(3, [], .box [.p (.sl (.pr (.int .i64) .bool)) ops]), (5, [], .box [.p .bool parens])]⟩ : St)) (by kernel_rfl) ?_
        refine aw_exit ?_
        refine thenQ_x ?_
        refine thenQ_x ?_
        refine blockQ_hit ?_
        exact rest1 () h

-- coppicer/climb.before
def VC55 (ops : (List (Int × Bool))) (a : Int) (b : Int) (K : Bool → Prop) : Prop :=
  (inIdx a ops.length ∧ inIdx b ops.length ∧ ((decide ((ops.getD (b).toNat ((0 : Int), false)).1 < (ops.getD (a).toNat ((0 : Int), false)).1)) = false → inIdx a ops.length) ∧ ((decide ((ops.getD (b).toNat ((0 : Int), false)).1 < (ops.getD (a).toNat ((0 : Int), false)).1)) = false → inIdx b ops.length) ∧ ((decide ((ops.getD (b).toNat ((0 : Int), false)).1 < (ops.getD (a).toNat ((0 : Int), false)).1)) = false → ((decide ((ops.getD (a).toNat ((0 : Int), false)).1 = (ops.getD (b).toNat ((0 : Int), false)).1)) = true → inIdx a ops.length)) ∧ K ((decide ((ops.getD (b).toNat ((0 : Int), false)).1 < (ops.getD (a).toNat ((0 : Int), false)).1)) || ((decide ((ops.getD (a).toNat ((0 : Int), false)).1 = (ops.getD (b).toNat ((0 : Int), false)).1)) && (!(ops.getD (a).toNat ((0 : Int), false)).2))))

set_option maxHeartbeats 4000000 in
theorem link55 (ops : (List (Int × Bool))) (a : Int) (b : Int) (K : Bool → Prop) (h : VC55 ops a b K) : ACalls Try.prog 55 [toV1 (.sl (.pr (.int .i64) .bool)) ops, toV1 (.int .i64) a, toV1 (.int .i64) b] (fun res => ∃ y, res = (fun y => [toV1 .bool y]) y ∧ K y) := by
  refine acalls_of_aw [.bool] [.t 6] Try.func55 rfl rfl rfl ?_
  unfold VC55 at h
  refine aw_seq ?_
  refine aw_region ?_
  refine awl_runp 1 [0, 1, 2] [] (ob := (True ∧ True)) (st' := (⟨39, [(0, [], .v (.c (.p (.sl (.pr (.int .i64) .bool)) ops))), (1, [], .v (.c (.p (.int .i64) a))), (2, [], .v (.c (.p (.int .i64) b)))], []⟩ : St)) (by kernel_rfl) ⟨trivial, trivial⟩ ?_
  refine awl_nil ?_
  refine thenQ_n ?_
  refine aw_seq ?_
  refine awd_begin [] (by kernel_rfl) ?_
  obtain ⟨o1, o2, o3, o4, o5, h⟩ := h
  refine awd_runp (by kernel_rfl) [0, 1, 2, 3, 4, 5, 6, 7, 8, 9, 10, 11, 12, 13, 14, 15, 16, 17, 18, 19, 20, 21, 22, 23, 24, 25, 26, 27, 28, 29, 30, 31, 32] [6] [] (ob := (True ∧ True ∧ inIdx a ops.length ∧ True ∧ True ∧ True ∧ True ∧ inIdx b ops.length ∧ True ∧ True ∧ True ∧ True ∧ ((decide ((ops.getD (b).toNat ((0 : Int), false)).1 < (ops.getD (a).toNat ((0 : Int), false)).1)) = false → True) ∧ ((decide ((ops.getD (b).toNat ((0 : Int), false)).1 < (ops.getD (a).toNat ((0 : Int), false)).1)) = false → True) ∧ ((decide ((ops.getD (b).toNat ((0 : Int), false)).1 < (ops.getD (a).toNat ((0 : Int), false)).1)) = false → inIdx a ops.length) ∧ ((decide ((ops.getD (b).toNat ((0 : Int), false)).1 < (ops.getD (a).toNat ((0 : Int), false)).1)) = false → True) ∧ ((decide ((ops.getD (b).toNat ((0 : Int), false)).1 < (ops.getD (a).toNat ((0 : Int), false)).1)) = false → True) ∧ ((decide ((ops.getD (b).toNat ((0 : Int), false)).1 < (ops.getD (a).toNat ((0 : Int), false)).1)) = false → True) ∧ ((decide ((ops.getD (b).toNat ((0 : Int), false)).1 < (ops.getD (a).toNat ((0 : Int), false)).1)) = false → True) ∧ ((decide ((ops.getD (b).toNat ((0 : Int), false)).1 < (ops.getD (a).toNat ((0 : Int), false)).1)) = false → inIdx b ops.length) ∧ ((decide ((ops.getD (b).toNat ((0 : Int), false)).1 < (ops.getD (a).toNat ((0 : Int), false)).1)) = false → True) ∧ ((decide ((ops.getD (b).toNat ((0 : Int), false)).1 < (ops.getD (a).toNat ((0 : Int), false)).1)) = false → True) ∧ ((decide ((ops.getD (b).toNat ((0 : Int), false)).1 < (ops.getD (a).toNat ((0 : Int), false)).1)) = false → True) ∧ ((decide ((ops.getD (b).toNat ((0 : Int), false)).1 < (ops.getD (a).toNat ((0 : Int), false)).1)) = false → True) ∧ ((decide ((ops.getD (b).toNat ((0 : Int), false)).1 < (ops.getD (a).toNat ((0 : Int), false)).1)) = false → ((decide ((ops.getD (a).toNat ((0 : Int), false)).1 = (ops.getD (b).toNat ((0 : Int), false)).1)) = true → True)) ∧ ((decide ((ops.getD (b).toNat ((0 : Int), false)).1 < (ops.getD (a).toNat ((0 : Int), false)).1)) = false → ((decide ((ops.getD (a).toNat ((0 : Int), false)).1 = (ops.getD (b).toNat ((0 : Int), false)).1)) = true → True)) ∧ ((decide ((ops.getD (b).toNat ((0 : Int), false)).1 < (ops.getD (a).toNat ((0 : Int), false)).1)) = false → ((decide ((ops.getD (a).toNat ((0 : Int), false)).1 = (ops.getD (b).toNat ((0 : Int), false)).1)) = true → inIdx a ops.length)) ∧ ((decide ((ops.getD (b).toNat ((0 : Int), false)).1 < (ops.getD (a).toNat ((0 : Int), false)).1)) = false → ((decide ((ops.getD (a).toNat ((0 : Int), false)).1 = (ops.getD (b).toNat ((0 : Int), false)).1)) = true → True)) ∧ ((decide ((ops.getD (b).toNat ((0 : Int), false)).1 < (ops.getD (a).toNat ((0 : Int), false)).1)) = false → ((decide ((ops.getD (a).toNat ((0 : Int), false)).1 = (ops.getD (b).toNat ((0 : Int), false)).1)) = true → True)) ∧ ((decide ((ops.getD (b).toNat ((0 : Int), false)).1 < (ops.getD (a).toNat ((0 : Int), false)).1)) = false → ((decide ((ops.getD (a).toNat ((0 : Int), false)).1 = (ops.getD (b).toNat ((0 : Int), false)).1)) = true → True)) ∧ ((decide ((ops.getD (b).toNat ((0 : Int), false)).1 < (ops.getD (a).toNat ((0 : Int), false)).1)) = false → True) ∧ True ∧ True ∧ True)) (done' := [32, 31, 30, 29, 28, 27, 26, 25, 24, 23, 22, 21, 20, 19, 18, 17, 16, 15, 14, 13, 12, 11, 10, 9, 8, 7, 6, 5, 4, 3, 2, 1, 0]) (st' := (⟨39, [(6, [], .v (.c (.p .bool ((decide ((ops.getD (b).toNat ((0 : Int), false)).1 < (ops.getD (a).toNat ((0 : Int), false)).1)) || ((decide ((ops.getD (a).toNat ((0 : Int), false)).1 = (ops.getD (b).toNat ((0 : Int), false)).1)) && (!(ops.getD (a).toNat ((0 : Int), false)).2))))))], []⟩ : St)) (by kernel_rfl) ⟨trivial, trivial, o1, trivial, trivial, trivial, trivial, o2, trivial, trivial, trivial, trivial, (fun _ => trivial), (fun _ => trivial), o3, (fun _ => trivial), (fun _ => trivial), (fun _ => trivial), (fun _ => trivial), o4, (fun _ => trivial), (fun _ => trivial), (fun _ => trivial), (fun _ => trivial), (fun _ _ => trivial), (fun _ _ => trivial), o5, (fun _ _ => trivial), (fun _ _ => trivial), (fun _ _ => trivial), (fun _ => trivial), trivial, trivial, trivial⟩ ?_
  refine awd_done (by kernel_rfl) ?_
  refine thenQ_n ?_
  refine aw_ret ?_
  exact retQ_r (σ := Bool) (R := (fun y => [toV1 .bool y])) (ob := (True ∧ True)) ((decide ((ops.getD (b).toNat ((0 : Int), false)).1 < (ops.getD (a).toNat ((0 : Int), false)).1)) || ((decide ((ops.getD (a).toNat ((0 : Int), false)).1 = (ops.getD (b).toNat ((0 : Int), false)).1)) && (!(ops.getD (a).toNat ((0 : Int), false)).2))) (by kernel_rfl) ⟨trivial, trivial⟩ h

-- slices.Grow[[]int,int]
def VC75_k1 (K : (List Int) → Prop) (sv : (List Int)) : Prop :=
  K sv

def VC75 (n : Int) (K : (List Int) → Prop) : Prop :=
  (((decide (n < (0 : Int))) = true → False) ∧ ((decide (n < (0 : Int))) = false → (InR ((0 : Int) - (0 : Int)) ∧ InR (n - ((0 : Int) - (0 : Int))) ∧ (((decide ((0 : Int) < (n - ((0 : Int) - (0 : Int))))) = true → ((0 ≤ (0 : Int) ∧ (0 : Int) ≤ (0 : Int)) ∧ (0 < (n - ((0 : Int) - (0 : Int))) ∧ (n - ((0 : Int) - (0 : Int))) ≤ 4294967296) ∧ (0 ≤ (0 : Int) ∧ (0 : Int) ≤ ((List.replicate ((n - ((0 : Int) - (0 : Int)))).toNat (0 : Int)).length : Int)) ∧ VC75_k1 K ((List.replicate ((n - ((0 : Int) - (0 : Int)))).toNat (0 : Int)).take (((0 : Int)).toNat)))) ∧ ((decide ((0 : Int) < (n - ((0 : Int) - (0 : Int))))) = false → VC75_k1 K ([] : List Int))))))

set_option maxHeartbeats 4000000 in
theorem link75 (n : Int) (K : (List Int) → Prop) (h : VC75 n K) : ACallsO Try.prog 75 [.c .nils, toV1 (.int .i64) n] 3 (.int .i64) K := by
  refine acallsO_of_aw 4 Try.func75 rfl rfl rfl ?_
  unfold VC75 at h
  refine aw_seq ?_
  refine aw_region ?_
  refine awl_runp 1 [0, 1] [] (ob := (True ∧ True)) (st' := (⟨27, [(0, [], .v (.c (.nils))), (1, [], .v (.c (.p (.int .i64) n)))], []⟩ : St)) (by kernel_rfl) ⟨trivial, trivial⟩ ?_
  refine awl_nil ?_
  refine thenQ_n ?_
  refine aw_seq ?_
  refine aw_seq ?_
  refine aw_region ?_
  refine awl_runp 2 [0, 1, 6] [] (ob := (True ∧ True ∧ True)) (st' := (⟨27, [(0, [], .v (.c (.nils))), (1, [], .v (.c (.p (.int .i64) n))), (6, [], .v (.c (.p .bool (decide (n < (0 : Int))))))], []⟩ : St)) (by kernel_rfl) ⟨trivial, trivial, trivial⟩ ?_
  refine awl_nil ?_
  refine thenQ_n ?_
  refine aw_cond (b := (decide (n < (0 : Int)))) (by kernel_rfl) (fun hb => ?_) (fun hb => ?_)
  · have h := h.1 hb
    refine aw_region ?_
    exact h.elim
  · have h := h.2 hb
    refine aw_skip ?_
    refine thenQ_n ?_
    refine aw_seq ?_
    refine aw_seq ?_
    refine aw_region ?_
    obtain ⟨o1, o2, h⟩ := h
    refine awl_runp 8 [0, 1] [] (ob := (True ∧ True ∧ True ∧ True ∧ True ∧ InR ((0 : Int) - (0 : Int)) ∧ InR (n - ((0 : Int) - (0 : Int))) ∧ True ∧ True)) (st' := (⟨27, [(0, [], .v (.c (.nils))), (1, [], .v (.c (.p (.int .i64) (n - ((0 : Int) - (0 : Int))))))], []⟩ : St)) (by kernel_rfl) ⟨trivial, trivial, trivial, trivial, trivial, o1, o2, trivial, trivial⟩ ?_
    refine awl_nil ?_
    refine thenQ_n ?_
    refine aw_seq ?_
    refine aw_region ?_
    refine awl_runp 2 [0, 1, 16] [] (ob := (True ∧ True ∧ True)) (st' := (⟨27, [(0, [], .v (.c (.nils))), (1, [], .v (.c (.p (.int .i64) (n - ((0 : Int) - (0 : Int)))))), (16, [], .v (.c (.p .bool (decide ((0 : Int) < (n - ((0 : Int) - (0 : Int))))))))], []⟩ : St)) (by kernel_rfl) ⟨trivial, trivial, trivial⟩ ?_
    refine awl_nil ?_
    refine thenQ_n ?_
    refine withJoin (σ := (List Int)) (fun s => (⟨27, [(0, [], .v (.c (.own 22)))], [(22, [], .arr 3 (.int .i64) s)]⟩ : St)) (fun s => VC75_k1 K s) (fun sv h => ?_) (fun rest1 => ?_)
    · have h : VC75_k1 K sv := h
      unfold VC75_k1 at h
      refine thenQ_n ?_
      refine aw_seq ?_
      refine aw_region ?_
      refine awl_runp 2 [4] [22] (ob := (True ∧ True ∧ True)) (st' := (⟨27, [(4, [], .v (.c (.own 22)))], [(22, [], .arr 3 (.int .i64) sv)]⟩ : St)) (by kernel_rfl) ⟨trivial, trivial, trivial⟩ ?_
      refine awl_nil ?_
      refine thenQ_n ?_
      refine aw_ret ?_
      exact ⟨22, _, by kernel_rfl, by kernel_rfl, h⟩
    · refine aw_cond (b := (decide ((0 : Int) < (n - ((0 : Int) - (0 : Int)))))) (by kernel_rfl) (fun hb => ?_) (fun hb => ?_)
      · have h := h.1 hb
        refine aw_region ?_
        obtain ⟨o1, o2, o3, h⟩ := h
        refine awl_runp 10 [0] [22] (ob := (True ∧ True ∧ True ∧ (0 ≤ (0 : Int) ∧ (0 : Int) ≤ (0 : Int)) ∧ True ∧ (0 < (n - ((0 : Int) - (0 : Int))) ∧ (n - ((0 : Int) - (0 : Int))) ≤ 4294967296) ∧ True ∧ True ∧ (0 ≤ (0 : Int) ∧ (0 : Int) ≤ ((List.replicate ((n - ((0 : Int) - (0 : Int)))).toNat (0 : Int)).length : Int)) ∧ True ∧ True)) (st' := (⟨27, [(0, [], .v (.c (.vw 22 0 (((0 : Int)).toNat) 1)))], [(22, [], .arr 3 (.int .i64) (List.replicate ((n - ((0 : Int) - (0 : Int)))).toNat (0 : Int)))]⟩ : St)) (by kernel_rfl) ⟨trivial, trivial, trivial, o1, trivial, o2, trivial, trivial, o3, trivial, trivial⟩ ?_
        refine awl_conv [.cut 0 22] (st' := (⟨27, [(0, [], .v (.c (.own 22)))], [(22, [], .arr 3 (.int .i64) ((List.replicate ((n - ((0 : Int) - (0 : Int)))).toNat (0 : Int)).take (((0 : Int)).toNat)))]⟩ : St)) (by kernel_rfl) ?_
        refine awl_nil ?_
        exact rest1 ((List.replicate ((n - ((0 : Int) - (0 : Int)))).toNat (0 : Int)).take (((0 : Int)).toNat)) h
      · have h := h.2 hb
        refine aw_conv [.prune [0] [], .nilOwn 0 5000 3 (.int .i64), .ren 5000 25000, .ren 25000 22] (st' := (⟨27, [(0, [], .v (.c (.own 22)))], [(22, [], .arr 3 (.int .i64) ([] : List Int))]⟩ : St)) (by kernel_rfl) ?_
        refine aw_skip ?_
        exact rest1 ([] : List Int) h

-- slices.Concat[[]int,int]
def VC56_k2 (K : (List Int) → Prop) (newslice : (List Int)) : Prop :=
  K newslice

def VC56_l1 (slices : (List (List Int))) (K : (List Int) → Prop) (v27 : Int) (newslice : (List Int)) (X1 : Int × (List Int) → Prop) : Prop :=
  (((decide (v27 < (slices.length : Int))) = true → (inIdx v27 slices.length ∧ (roomN (newslice.length + (slices.getD (v27).toNat ([] : (List Int))).length) ∧ (InR (v27 + (1 : Int)) ∧ X1 ((v27 + (1 : Int)), (newslice ++ (slices.getD (v27).toNat ([] : (List Int))))))))) ∧ ((decide (v27 < (slices.length : Int))) = false → VC56_k2 K newslice))

def VC56_k1 (slices : (List (List Int))) (K : (List Int) → Prop) (size : Int) : Prop :=
  VC75 size (fun (ret24v : (List Int)) => Loop (σ := Int × (List Int)) (fun s X => VC56_l1 slices K s.1 s.2 X) ((0 : Int), ret24v))

def VC56_l2 (slices : (List (List Int))) (K : (List Int) → Prop) (size : Int) (v11 : Int) (X2 : Int × Int → Prop) : Prop :=
  (((decide (v11 < (slices.length : Int))) = true → (inIdx v11 slices.length ∧ (InR (size + ((slices.getD (v11).toNat ([] : (List Int))).length : Int)) ∧ (((decide ((size + ((slices.getD (v11).toNat ([] : (List Int))).length : Int)) < (0 : Int))) = true → False) ∧ ((decide ((size + ((slices.getD (v11).toNat ([] : (List Int))).length : Int)) < (0 : Int))) = false → (InR (v11 + (1 : Int)) ∧ X2 ((size + ((slices.getD (v11).toNat ([] : (List Int))).length : Int)), (v11 + (1 : Int))))))))) ∧ ((decide (v11 < (slices.length : Int))) = false → VC56_k1 slices K size))

def VC56 (slices : (List (List Int))) (K : (List Int) → Prop) : Prop :=
  Loop (σ := Int × Int) (fun s X => VC56_l2 slices K s.1 s.2 X) ((0 : Int), (0 : Int))

set_option maxHeartbeats 4000000 in
theorem link56 (slices : (List (List Int))) (K : (List Int) → Prop) (h : VC56 slices K) : ACallsO Try.prog 56 [toV1 (.sl (.sl (.int .i64))) slices] 3 (.int .i64) K := by
  refine acallsO_of_aw 2 Try.func56 rfl rfl rfl ?_
  unfold VC56 at h
  refine aw_seq ?_
  refine aw_region ?_
  refine awl_runp 1 [0] [] (ob := (True ∧ True)) (st' := (⟨36, [(0, [], .v (.c (.p (.sl (.sl (.int .i64))) slices)))], []⟩ : St)) (by kernel_rfl) ⟨trivial, trivial⟩ ?_
  refine awl_nil ?_
  refine thenQ_n ?_
  refine aw_seq ?_
  refine aw_region ?_
  refine awl_runp 1 [0, 3] [] (ob := (True ∧ True)) (st' := (⟨36, [(0, [], .v (.c (.p (.sl (.sl (.int .i64))) slices))), (3, [], .v (.c (.p (.int .i64) (0 : Int))))], []⟩ : St)) (by kernel_rfl) ⟨trivial, trivial⟩ ?_
  refine awl_nil ?_
  refine thenQ_n ?_
  refine aw_seq ?_
  refine aw_seq ?_
  refine aw_region ?_
  refine awl_runp 3 [0, 3, 9, 10, 11] [] (ob := (True ∧ True ∧ True ∧ True)) (st' := (⟨36, [(0, [], .v (.c (.p (.sl (.sl (.int .i64))) slices))), (3, [], .v (.c (.p (.int .i64) (0 : Int)))), (9, [], .v (.c (.p (.sl (.sl (.int .i64))) slices))), (10, [], .v (.c (.p (.int .i64) (slices.length : Int)))), (11, [], .v (.c (.p (.int .i64) (0 : Int))))], []⟩ : St)) (by kernel_rfl) ⟨trivial, trivial, trivial, trivial⟩ ?_
  refine awl_nil ?_
  refine thenQ_n ?_
  refine withJoin (σ := Int) (fun s => (⟨36, [(0, [], .v (.c (.p (.sl (.sl (.int .i64))) slices))), (3, [], .v (.c (.p (.int .i64) s)))], []⟩ : St)) (fun s => VC56_k1 slices K s) (fun size h => ?_) (fun rest2 => ?_)
  · have h : VC56_k1 slices K size := h
    unfold VC56_k1 at h
    refine thenQ_n ?_
    refine aw_seq ?_
    refine aw_region ?_
    refine awl_runp 1 [0, 23] [] (ob := (True ∧ True)) (st' := (⟨36, [(0, [], .v (.c (.p (.sl (.sl (.int .i64))) slices))), (23, [], .v (.c (.p (.int .i64) size)))], []⟩ : St)) (by kernel_rfl) ⟨trivial, trivial⟩ ?_
    refine awl_callOk (e := 3) (t := (.int .i64)) (l := [.c .nils, toV1 (.int .i64) size]) (cl := []) false [.nil, .d (.int .i64)] [0, 24] [24] (fun (ret24v : (List Int)) => Loop (σ := Int × (List Int)) (fun s X => VC56_l1 slices K s.1 s.2 X) ((0 : Int), ret24v)) (fun ret24v => (⟨36, [(0, [], .v (.c (.p (.sl (.sl (.int .i64))) slices))), (24, [], .v (.c (.own 24)))], [(24, [], .arr 3 (.int .i64) ret24v)]⟩ : St)) rfl rfl (by kernel_rfl) rfl (by kernel_rfl) Try.call75 (by kernel_rfl) (fun e => by cases e) (fun ret24v => by kernel_rfl) (link75 size _ h) (fun ret24v h => ?_)
    have h : Loop (σ := Int × (List Int)) (fun s X => VC56_l1 slices K s.1 s.2 X) ((0 : Int), ret24v) := h
    refine awl_runp 1 [0, 6] [24] (ob := (True ∧ True)) (st' := (⟨36, [(0, [], .v (.c (.p (.sl (.sl (.int .i64))) slices))), (6, [], .v (.c (.own 24)))], [(24, [], .arr 3 (.int .i64) ret24v)]⟩ : St)) (by kernel_rfl) ⟨trivial, trivial⟩ ?_
    refine awl_nil ?_
    refine thenQ_n ?_
    refine aw_seq ?_
    refine aw_seq ?_
    refine aw_region ?_
    refine awl_runp 3 [6, 25, 26, 27] [24] (ob := (True ∧ True ∧ True ∧ True)) (st' := (⟨36, [(6, [], .v (.c (.own 24))), (25, [], .v (.c (.p (.sl (.sl (.int .i64))) slices))), (26, [], .v (.c (.p (.int .i64) (slices.length : Int)))), (27, [], .v (.c (.p (.int .i64) (0 : Int))))], [(24, [], .arr 3 (.int .i64) ret24v)]⟩ : St)) (by kernel_rfl) ⟨trivial, trivial, trivial, trivial⟩ ?_
    refine awl_nil ?_
    refine thenQ_n ?_
    refine withJoin (σ := (List Int)) (fun s => (⟨36, [(6, [], .v (.c (.own 24)))], [(24, [], .arr 3 (.int .i64) s)]⟩ : St)) (fun s => VC56_k2 K s) (fun newslice h => ?_) (fun rest1 => ?_)
    · have h : VC56_k2 K newslice := h
      unfold VC56_k2 at h
      refine thenQ_n ?_
      refine aw_seq ?_
      refine aw_region ?_
      refine awl_runp 2 [2] [24] (ob := (True ∧ True ∧ True)) (st' := (⟨36, [(2, [], .v (.c (.own 24)))], [(24, [], .arr 3 (.int .i64) newslice)]⟩ : St)) (by kernel_rfl) ⟨trivial, trivial, trivial⟩ ?_
      refine awl_nil ?_
      refine thenQ_n ?_
      refine aw_ret ?_
      exact ⟨24, _, by kernel_rfl, by kernel_rfl, h⟩
    · refine aw_block ?_
      refine aw_loop (σ := Int × (List Int)) (fun s => (⟨36, [(6, [], .v (.c (.own 24))), (25, [], .v (.c (.p (.sl (.sl (.int .i64))) slices))), (26, [], .v (.c (.p (.int .i64) (slices.length : Int)))), (27, [], .v (.c (.p (.int .i64) s.1)))], [(24, [], .arr 3 (.int .i64) s.2)]⟩ : St)) (fun s X => VC56_l1 slices K s.1 s.2 X) (s0 := ((0 : Int), ret24v)) (fun s X1 h => ?_) h
      obtain ⟨v27, newslice⟩ := s
      have h : VC56_l1 slices K v27 newslice X1 := h
      unfold VC56_l1 at h
      refine aw_seq ?_
      refine aw_region ?_
      refine awl_runp 1 [6, 25, 26, 27, 28] [24] (ob := (True ∧ True)) (st' := (⟨36, [(6, [], .v (.c (.own 24))), (25, [], .v (.c (.p (.sl (.sl (.int .i64))) slices))), (26, [], .v (.c (.p (.int .i64) (slices.length : Int)))), (27, [], .v (.c (.p (.int .i64) v27))), (28, [], .v (.c (.p .bool (decide (v27 < (slices.length : Int))))))], [(24, [], .arr 3 (.int .i64) newslice)]⟩ : St)) (by kernel_rfl) ⟨trivial, trivial⟩ ?_
      refine awl_nil ?_
      refine thenQ_n ?_
      refine aw_seq ?_
      refine aw_cond (b := (decide (v27 < (slices.length : Int)))) (by kernel_rfl) (fun hb => ?_) (fun hb => ?_)
      · have h := h.1 hb
        refine aw_skip ?_
        refine thenQ_n ?_
        refine aw_seq ?_
        refine aw_block ?_
        refine aw_seq ?_
        refine aw_region ?_
        obtain ⟨o1, h⟩ := h
        refine awl_runp 3 [6, 8, 25, 26, 27] [24] (ob := (inIdx v27 slices.length ∧ True ∧ True ∧ True)) (st' := (⟨36, [(6, [], .v (.c (.own 24))), (8, [], .v (.c (.p (.sl (.int .i64)) (slices.getD (v27).toNat ([] : (List Int)))))), (25, [], .v (.c (.p (.sl (.sl (.int .i64))) slices))), (26, [], .v (.c (.p (.int .i64) (slices.length : Int)))), (27, [], .v (.c (.p (.int .i64) v27)))], [(24, [], .arr 3 (.int .i64) newslice)]⟩ : St)) (by kernel_rfl) ⟨o1, trivial, trivial, trivial⟩ ?_
        refine awl_nil ?_
        refine thenQ_n ?_
        refine aw_region ?_
        obtain ⟨o1, h⟩ := h
        refine awl_runp 4 [6, 25, 26, 27] [33] (ob := (True ∧ True ∧ roomN (newslice.length + (slices.getD (v27).toNat ([] : (List Int))).length) ∧ True ∧ True)) (st' := (⟨36, [(6, [], .v (.c (.own 33))), (25, [], .v (.c (.p (.sl (.sl (.int .i64))) slices))), (26, [], .v (.c (.p (.int .i64) (slices.length : Int)))), (27, [], .v (.c (.p (.int .i64) v27)))], [(33, [], .arr 3 (.int .i64) (newslice ++ (slices.getD (v27).toNat ([] : (List Int)))))]⟩ : St)) (by kernel_rfl) ⟨trivial, trivial, o1, trivial, trivial⟩ ?_
        refine awl_nil ?_
        refine blockQ_n ?_
        refine thenQ_n ?_
        refine aw_region ?_
        obtain ⟨o1, h⟩ := h
        refine awl_runp 2 [6, 25, 26, 27] [33] (ob := (InR (v27 + (1 : Int)) ∧ True ∧ True)) (st' := (⟨36, [(6, [], .v (.c (.own 33))), (25, [], .v (.c (.p (.sl (.sl (.int .i64))) slices))), (26, [], .v (.c (.p (.int .i64) (slices.length : Int)))), (27, [], .v (.c (.p (.int .i64) (v27 + (1 : Int)))))], [(33, [], .arr 3 (.int .i64) (newslice ++ (slices.getD (v27).toNat ([] : (List Int)))))]⟩ : St)) (by kernel_rfl) ⟨o1, trivial, trivial⟩ ?_
        refine awl_conv [.ren 33 20033, .ren 20033 24] (st' := (⟨36, [(6, [], .v (.c (.own 24))), (25, [], .v (.c (.p (.sl (.sl (.int .i64))) slices))), (26, [], .v (.c (.p (.int .i64) (slices.length : Int)))), (27, [], .v (.c (.p (.int .i64) (v27 + (1 : Int)))))], [(24, [], .arr 3 (.int .i64) (newslice ++ (slices.getD (v27).toNat ([] : (List Int)))))]⟩ : St)) (by kernel_rfl) ?_
        refine awl_nil ?_
        exact thenQ_n ⟨((v27 + (1 : Int)), (newslice ++ (slices.getD (v27).toNat ([] : (List Int))))), rfl, h⟩
      · have h := h.2 hb
        refine aw_conv [.prune [6] [24]] (st' := (⟨36, [(6, [], .v (.c (.own 24)))], [(24, [], .arr 3 (.int .i64) newslice)]⟩ : St)) (by kernel_rfl) ?_
        refine aw_exit ?_
        refine thenQ_x ?_
        refine thenQ_x ?_
        refine blockQ_hit ?_
        exact rest1 newslice h
  · refine aw_block ?_
    refine aw_loop (σ := Int × Int) (fun s => (⟨36, [(0, [], .v (.c (.p (.sl (.sl (.int .i64))) slices))), (3, [], .v (.c (.p (.int .i64) s.1))), (9, [], .v (.c (.p (.sl (.sl (.int .i64))) slices))), (10, [], .v (.c (.p (.int .i64) (slices.length : Int)))), (11, [], .v (.c (.p (.int .i64) s.2)))], []⟩ : St)) (fun s X => VC56_l2 slices K s.1 s.2 X) (s0 := ((0 : Int), (0 : Int))) (fun s X2 h => ?_) h
    obtain ⟨size, v11⟩ := s
    have h : VC56_l2 slices K size v11 X2 := h
    unfold VC56_l2 at h
    refine aw_seq ?_
    refine aw_region ?_
    refine awl_runp 1 [0, 3, 9, 10, 11, 12] [] (ob := (True ∧ True)) (st' := (⟨36, [(0, [], .v (.c (.p (.sl (.sl (.int .i64))) slices))), (3, [], .v (.c (.p (.int .i64) size))), (9, [], .v (.c (.p (.sl (.sl (.int .i64))) slices))), (10, [], .v (.c (.p (.int .i64) (slices.length : Int)))), (11, [], .v (.c (.p (.int .i64) v11))), (12, [], .v (.c (.p .bool (decide (v11 < (slices.length : Int))))))], []⟩ : St)) (by kernel_rfl) ⟨trivial, trivial⟩ ?_
    refine awl_nil ?_
    refine thenQ_n ?_
    refine aw_seq ?_
    refine aw_cond (b := (decide (v11 < (slices.length : Int)))) (by kernel_rfl) (fun hb => ?_) (fun hb => ?_)
    · have h := h.1 hb
      refine aw_skip ?_
      refine thenQ_n ?_
      refine aw_seq ?_
      refine aw_block ?_
      refine aw_seq ?_
      refine aw_region ?_
      obtain ⟨o1, h⟩ := h
      refine awl_runp 3 [0, 3, 5, 9, 10, 11] [] (ob := (inIdx v11 slices.length ∧ True ∧ True ∧ True)) (st' := (⟨36, [(0, [], .v (.c (.p (.sl (.sl (.int .i64))) slices))), (3, [], .v (.c (.p (.int .i64) size))), (5, [], .v (.c (.p (.sl (.int .i64)) (slices.getD (v11).toNat ([] : (List Int)))))), (9, [], .v (.c (.p (.sl (.sl (.int .i64))) slices))), (10, [], .v (.c (.p (.int .i64) (slices.length : Int)))), (11, [], .v (.c (.p (.int .i64) v11)))], []⟩ : St)) (by kernel_rfl) ⟨o1, trivial, trivial, trivial⟩ ?_
      refine awl_nil ?_
      refine thenQ_n ?_
      refine aw_seq ?_
      refine aw_region ?_
      obtain ⟨o1, h⟩ := h
      refine awl_runp 5 [0, 3, 9, 10, 11] [] (ob := (True ∧ True ∧ True ∧ InR (size + ((slices.getD (v11).toNat ([] : (List Int))).length : Int)) ∧ True ∧ True)) (st' := (⟨36, [(0, [], .v (.c (.p (.sl (.sl (.int .i64))) slices))), (3, [], .v (.c (.p (.int .i64) (size + ((slices.getD (v11).toNat ([] : (List Int))).length : Int))))), (9, [], .v (.c (.p (.sl (.sl (.int .i64))) slices))), (10, [], .v (.c (.p (.int .i64) (slices.length : Int)))), (11, [], .v (.c (.p (.int .i64) v11)))], []⟩ : St)) (by kernel_rfl) ⟨trivial, trivial, trivial, o1, trivial, trivial⟩ ?_
      refine awl_nil ?_
      refine thenQ_n ?_
      refine aw_seq ?_
      refine aw_region ?_
      refine awl_runp 2 [0, 3, 9, 10, 11, 20] [] (ob := (True ∧ True ∧ True)) (st' := (⟨36, [(0, [], .v (.c (.p (.sl (.sl (.int .i64))) slices))), (3, [], .v (.c (.p (.int .i64) (size + ((slices.getD (v11).toNat ([] : (List Int))).length : Int))))), (9, [], .v (.c (.p (.sl (.sl (.int .i64))) slices))), (10, [], .v (.c (.p (.int .i64) (slices.length : Int)))), (11, [], .v (.c (.p (.int .i64) v11))), (20, [], .v (.c (.p .bool (decide ((size + ((slices.getD (v11).toNat ([] : (List Int))).length : Int)) < (0 : Int))))))], []⟩ : St)) (by kernel_rfl) ⟨trivial, trivial, trivial⟩ ?_
      refine awl_nil ?_
      refine thenQ_n ?_
      refine aw_cond (b := (decide ((size + ((slices.getD (v11).toNat ([] : (List Int))).length : Int)) < (0 : Int)))) (by kernel_rfl) (fun hb => ?_) (fun hb => ?_)
      · have h := h.1 hb
        refine aw_region ?_
        exact h.elim
      · have h := h.2 hb
        refine aw_skip ?_
        refine blockQ_n ?_
        refine thenQ_n ?_
        refine aw_region ?_
        obtain ⟨o1, h⟩ := h
        refine awl_runp 2 [0, 3, 9, 10, 11] [] (ob := (InR (v11 + (1 : Int)) ∧ True ∧ True)) (st' := (⟨36, [(0, [], .v (.c (.p (.sl (.sl (.int .i64))) slices))), (3, [], .v (.c (.p (.int .i64) (size + ((slices.getD (v11).toNat ([] : (List Int))).length : Int))))), (9, [], .v (.c (.p (.sl (.sl (.int .i64))) slices))), (10, [], .v (.c (.p (.int .i64) (slices.length : Int)))), (11, [], .v (.c (.p (.int .i64) (v11 + (1 : Int)))))], []⟩ : St)) (by kernel_rfl) ⟨o1, trivial, trivial⟩ ?_
        refine awl_nil ?_
        exact thenQ_n ⟨((size + ((slices.getD (v11).toNat ([] : (List Int))).length : Int)), (v11 + (1 : Int))), rfl, h⟩
    · have h := h.2 hb
      refine aw_conv [.prune [0, 3] []] (st' := (⟨36, [(0, [], .v (.c (.p (.sl (.sl (.int .i64))) slices))), (3, [], .v (.c (.p (.int .i64) size)))], []⟩ : St)) (by kernel_rfl) ?_
      refine aw_exit ?_
      refine thenQ_x ?_
      refine thenQ_x ?_
      refine blockQ_hit ?_
      exact rest2 size h

-- (coppicer/climb.written).within
def VC54 (x : ((List Int) × Int)) (needed : Bool) (K : (List Int) → Prop) : Prop :=
  (((!needed) = true → K x.1) ∧ ((!needed) = false → VC56 [[(-1 : Int)], x.1, [(-2 : Int)]] (fun (ret14v : (List Int)) => K ret14v)))

set_option maxHeartbeats 4000000 in
theorem link54 (x : ((List Int) × Int)) (needed : Bool) (K : (List Int) → Prop) (h : VC54 x needed K) : ACalls Try.prog 54 [toV1 (.pr (.sl (.int .i64)) (.int .i64)) x, toV1 .bool needed] (fun res => ∃ y, res = (fun y => [toV1 (.sl (.int .i64)) y]) y ∧ K y) := by
  refine acalls_of_aw [(.sl (.int .i64))] [.t 4] Try.func54 rfl rfl rfl ?_
  unfold VC54 at h
  refine aw_seq ?_
  refine aw_region ?_
  refine awl_runp 2 [1, 2] [2] (ob := (True ∧ True ∧ True)) (st' := (⟨15, [(1, [], .v (.c (.p .bool needed))), (2, [], .v (.c (.ptr 2 0)))], [(2, [], .box [.p (.sl (.int .i64)) x.1, .p (.int .i64) x.2])]⟩ : St)) (by kernel_rfl) ⟨trivial, trivial, trivial⟩ ?_
  refine awl_nil ?_
  refine thenQ_n ?_
  refine aw_seq ?_
  refine aw_seq ?_
  refine aw_region ?_
  refine awl_runp 2 [2, 6] [2] (ob := (True ∧ True ∧ True)) (st' := (⟨15, [(2, [], .v (.c (.ptr 2 0))), (6, [], .v (.c (.p .bool (!needed))))], [(2, [], .box [.p (.sl (.int .i64)) x.1, .p (.int .i64) x.2])]⟩ : St)) (by kernel_rfl) ⟨trivial, trivial, trivial⟩ ?_
  refine awl_nil ?_
  refine thenQ_n ?_
  refine aw_cond (b := (!needed)) (by kernel_rfl) (fun hb => ?_) (fun hb => ?_)
  · have h := h.1 hb
    refine aw_seq ?_
    refine aw_region ?_
    refine awl_runp 3 [4] [] (ob := (True ∧ True ∧ True ∧ True)) (st' := (⟨15, [(4, [], .v (.c (.p (.sl (.int .i64)) x.1)))], []⟩ : St)) (by kernel_rfl) ⟨trivial, trivial, trivial, trivial⟩ ?_
    refine awl_nil ?_
    refine thenQ_n ?_
    refine aw_ret ?_
    refine thenQ_r ?_
    exact retQ_r (σ := (List Int)) (R := (fun y => [toV1 (.sl (.int .i64)) y])) (ob := (True ∧ True)) x.1 (by kernel_rfl) ⟨trivial, trivial⟩ h
  · have h := h.2 hb
    refine aw_skip ?_
    refine thenQ_n ?_
    refine aw_seq ?_
    refine aw_region ?_
    refine awl_runp 4 [9, 11, 12] [9, 12] (ob := (True ∧ True ∧ True ∧ True ∧ True)) (st' := (⟨15, [(9, [], .v (.c (.own 9))), (11, [], .v (.c (.p (.sl (.int .i64)) x.1))), (12, [], .v (.c (.own 12)))], [(9, [], .arr 3 (.int .i64) [(-1 : Int)]), (12, [], .arr 3 (.int .i64) [(-2 : Int)])]⟩ : St)) (by kernel_rfl) ⟨trivial, trivial, trivial, trivial, trivial⟩ ?_
    refine awl_conv [.freeze 9] (st' := (⟨15, [(9, [], .v (.c (.p (.sl (.int .i64)) [(-1 : Int)]))), (11, [], .v (.c (.p (.sl (.int .i64)) x.1))), (12, [], .v (.c (.own 12)))], [(12, [], .arr 3 (.int .i64) [(-2 : Int)])]⟩ : St)) (by kernel_rfl) ?_
    refine awl_conv [.freeze 12] (st' := (⟨15, [(9, [], .v (.c (.p (.sl (.int .i64)) [(-1 : Int)]))), (11, [], .v (.c (.p (.sl (.int .i64)) x.1))), (12, [], .v (.c (.p (.sl (.int .i64)) [(-2 : Int)])))], []⟩ : St)) (by kernel_rfl) ?_
    refine awl_runp 1 [13] [13] (ob := (True ∧ True)) (st' := (⟨15, [(13, [], .v (.c (.own 13)))], [(13, [], .arr 32 (.sl (.int .i64)) [[(-1 : Int)], x.1, [(-2 : Int)]])]⟩ : St)) (by kernel_rfl) ⟨trivial, trivial⟩ ?_
    refine awl_callOk (e := 3) (t := (.int .i64)) (l := [toV1 (.sl (.sl (.int .i64))) [[(-1 : Int)], x.1, [(-2 : Int)]]]) (cl := []) true [.d (.sl (.sl (.int .i64)))] [14] [14] (fun (ret14v : (List Int)) => K ret14v) (fun ret14v => (⟨15, [(14, [], .v (.c (.own 14)))], [(14, [], .arr 3 (.int .i64) ret14v)]⟩ : St)) rfl rfl (by kernel_rfl) rfl (by kernel_rfl) Try.call56 (by kernel_rfl) (fun _ => rfl) (fun ret14v => by kernel_rfl) (link56 [[(-1 : Int)], x.1, [(-2 : Int)]] _ h) (fun ret14v h => ?_)
    have h : K ret14v := h
    refine awl_runp 1 [4] [14] (ob := (True ∧ True)) (st' := (⟨15, [(4, [], .v (.c (.own 14)))], [(14, [], .arr 3 (.int .i64) ret14v)]⟩ : St)) (by kernel_rfl) ⟨trivial, trivial⟩ ?_
    refine awl_nil ?_
    refine thenQ_n ?_
    refine aw_conv [.freeze 14] (st' := (⟨15, [(4, [], .v (.c (.p (.sl (.int .i64)) ret14v)))], []⟩ : St)) (by kernel_rfl) ?_
    refine aw_ret ?_
    exact retQ_r (σ := (List Int)) (R := (fun y => [toV1 (.sl (.int .i64)) y])) (ob := (True ∧ True)) ret14v (by kernel_rfl) ⟨trivial, trivial⟩ h

-- coppicer/climb.Show
def VC29_k1 (K : (List Int) × Int → Prop) (stack : (List ((List Int) × Int))) : Prop :=
  (((!decide ((stack.length : Int) = (1 : Int))) = true → K (([] : (List Int)), (5 : Int))) ∧ ((!decide ((stack.length : Int) = (1 : Int))) = false → (inIdx (0 : Int) stack.length ∧ (((decide ((60 : Int) < (((stack.getD (((0 : Int)).toNat) (([] : (List Int)), (0 : Int))).1).length : Int))) = true → K (([] : (List Int)), (1 : Int))) ∧ ((decide ((60 : Int) < (((stack.getD (((0 : Int)).toNat) (([] : (List Int)), (0 : Int))).1).length : Int))) = false → (inIdx (0 : Int) stack.length ∧ K ((stack.getD (((0 : Int)).toNat) (([] : (List Int)), (0 : Int))).1, (0 : Int))))))))

def VC29_k2 (v23 : Int) (X1 : Int × (List ((List Int) × Int)) → Prop) (stack2 : (List ((List Int) × Int))) : Prop :=
  (InR (v23 + (1 : Int)) ∧ X1 ((v23 + (1 : Int)), stack2))

def VC29_l1 (ops : (List (Int × Bool))) (post : (List Int)) (K : (List Int) × Int → Prop) (v23 : Int) (stack : (List ((List Int) × Int))) (X1 : Int × (List ((List Int) × Int)) → Prop) : Prop :=
  (((decide (v23 < (post.length : Int))) = true → (inIdx v23 post.length ∧ (((decide ((100 : Int) ≤ (post.getD (v23).toNat (0 : Int)))) = true → (roomN (stack.length + [([(post.getD (v23).toNat (0 : Int))], (-1 : Int))].length) ∧ VC29_k2 v23 X1 (stack ++ [([(post.getD (v23).toNat (0 : Int))], (-1 : Int))]))) ∧ ((decide ((100 : Int) ≤ (post.getD (v23).toNat (0 : Int)))) = false → (InR ((stack.length : Int) - (2 : Int)) ∧ (((decide (((stack.length : Int) - (2 : Int)) < (0 : Int))) = true → K (([] : (List Int)), (5 : Int))) ∧ ((decide (((stack.length : Int) - (2 : Int)) < (0 : Int))) = false → (inIdx ((stack.length : Int) - (2 : Int)) stack.length ∧ InR (((stack.length : Int) - (2 : Int)) + (1 : Int)) ∧ inIdx (((stack.length : Int) - (2 : Int)) + (1 : Int)) stack.length ∧ gcall (α := Bool) (decide ((0 : Int) ≤ (stack.getD ((((stack.length : Int) - (2 : Int))).toNat) (([] : (List Int)), (0 : Int))).2)) (VC55 ops ((stack.getD ((((stack.length : Int) - (2 : Int))).toNat) (([] : (List Int)), (0 : Int))).2) (post.getD (v23).toNat (0 : Int))) false (fun (ret58v : Bool) => VC54 (stack.getD ((((stack.length : Int) - (2 : Int))).toNat) (([] : (List Int)), (0 : Int))) ((decide ((0 : Int) ≤ (stack.getD ((((stack.length : Int) - (2 : Int))).toNat) (([] : (List Int)), (0 : Int))).2)) && (!ret58v)) (fun (ret61v : (List Int)) => gcall (α := Bool) (decide ((0 : Int) ≤ (stack.getD (((((stack.length : Int) - (2 : Int)) + (1 : Int))).toNat) (([] : (List Int)), (0 : Int))).2)) (VC55 ops (post.getD (v23).toNat (0 : Int)) ((stack.getD (((((stack.length : Int) - (2 : Int)) + (1 : Int))).toNat) (([] : (List Int)), (0 : Int))).2)) false (fun (ret71v : Bool) => VC54 (stack.getD (((((stack.length : Int) - (2 : Int)) + (1 : Int))).toNat) (([] : (List Int)), (0 : Int))) ((decide ((0 : Int) ≤ (stack.getD (((((stack.length : Int) - (2 : Int)) + (1 : Int))).toNat) (([] : (List Int)), (0 : Int))).2)) && ret71v) (fun (ret73v : (List Int)) => ((0 ≤ ((stack.length : Int) - (2 : Int)) ∧ ((stack.length : Int) - (2 : Int)) ≤ (stack.length : Int)) ∧ VC56 [ret61v, [(post.getD (v23).toNat (0 : Int))], ret73v] (fun (ret82v : (List Int)) => (roomN ((stack.take ((((stack.length : Int) - (2 : Int))).toNat)).length + [(ret82v, (post.getD (v23).toNat (0 : Int)))].length) ∧ VC29_k2 v23 X1 ((stack.take ((((stack.length : Int) - (2 : Int))).toNat)) ++ [(ret82v, (post.getD (v23).toNat (0 : Int)))])))))))))))))))) ∧ ((decide (v23 < (post.length : Int))) = false → VC29_k1 K stack))

def VC29 (ops : (List (Int × Bool))) (post : (List Int)) (K : (List Int) × Int → Prop) : Prop :=
  VC53 ops post false (fun (ret17v : Int) => (((!decide (ret17v = (0 : Int))) = true → K (([] : (List Int)), ret17v)) ∧ ((!decide (ret17v = (0 : Int))) = false → Loop (σ := Int × (List ((List Int) × Int))) (fun s X => VC29_l1 ops post K s.1 s.2 X) ((0 : Int), ([] : List ((List Int) × Int))))))

set_option maxHeartbeats 4000000 in
theorem link29 (ops : (List (Int × Bool))) (post : (List Int)) (K : (List Int) × Int → Prop) (h : VC29 ops post K) : ACalls Try.prog 29 [toV1 (.sl (.pr (.int .i64) .bool)) ops, toV1 (.sl (.int .i64)) post] (fun res => ∃ y, res = (fun y => [toV1 (.sl (.int .i64)) y.1, toV1 (.int .i64) y.2]) y ∧ K y) := by
  refine acalls_of_aw [(.sl (.int .i64)), (.int .i64)] [.t 4, .t 5] Try.func29 rfl rfl rfl ?_
  unfold VC29 at h
  refine aw_seq ?_
  refine aw_region ?_
  refine awl_runp 2 [0, 1] [] (ob := (True ∧ True ∧ True)) (st' := (⟨101, [(0, [], .v (.c (.p (.sl (.pr (.int .i64) .bool)) ops))), (1, [], .v (.c (.p (.sl (.int .i64)) post)))], []⟩ : St)) (by kernel_rfl) ⟨trivial, trivial, trivial⟩ ?_
  refine awl_nil ?_
  refine thenQ_n ?_
  refine aw_seq ?_
  refine aw_seq ?_
  refine aw_region ?_
  refine awl_runp 2 [0, 1, 15, 16] [] (ob := (True ∧ True ∧ True)) (st' := (⟨101, [(0, [], .v (.c (.p (.sl (.pr (.int .i64) .bool)) ops))), (1, [], .v (.c (.p (.sl (.int .i64)) post))), (15, [], .v (.c (.p (.sl (.pr (.int .i64) .bool)) ops))), (16, [], .v (.c (.p (.sl (.int .i64)) post)))], []⟩ : St)) (by kernel_rfl) ⟨trivial, trivial, trivial⟩ ?_
  refine awl_callk (p := []) (l := [toV1 (.sl (.pr (.int .i64) .bool)) ops, toV1 (.sl (.int .i64)) post, toV1 .bool false]) (cl := []) false [.d (.sl (.pr (.int .i64) .bool)), .d (.sl (.int .i64)), .d .bool] [0, 1, 17] [] (fun (ret17v : Int) => (((!decide (ret17v = (0 : Int))) = true → K (([] : (List Int)), ret17v)) ∧ ((!decide (ret17v = (0 : Int))) = false → Loop (σ := Int × (List ((List Int) × Int))) (fun s X => VC29_l1 ops post K s.1 s.2 X) ((0 : Int), ([] : List ((List Int) × Int)))))) (fun ret17v => [toV1 (.int .i64) ret17v]) (fun ret17v => (⟨101, [(0, [], .v (.c (.p (.sl (.pr (.int .i64) .bool)) ops))), (1, [], .v (.c (.p (.sl (.int .i64)) post))), (17, [], .v (.c (.p (.int .i64) ret17v)))], []⟩ : St)) (by kernel_rfl) rfl (by kernel_rfl) rfl (by kernel_rfl) Try.call53 (by kernel_rfl) (fun ret17v => by kernel_rfl) (fun e => by cases e) (fun hg => link53 ops post false _ h) (fun hg => noF hg) (fun ret17v h => ?_)
  have h : (((!decide (ret17v = (0 : Int))) = true → K (([] : (List Int)), ret17v)) ∧ ((!decide (ret17v = (0 : Int))) = false → Loop (σ := Int × (List ((List Int) × Int))) (fun s X => VC29_l1 ops post K s.1 s.2 X) ((0 : Int), ([] : List ((List Int) × Int))))) := h
  refine awl_runp 1 [0, 1, 6] [] (ob := (True ∧ True)) (st' := (⟨101, [(0, [], .v (.c (.p (.sl (.pr (.int .i64) .bool)) ops))), (1, [], .v (.c (.p (.sl (.int .i64)) post))), (6, [], .v (.c (.p (.int .i64) ret17v)))], []⟩ : St)) (by kernel_rfl) ⟨trivial, trivial⟩ ?_
  refine awl_nil ?_
  refine thenQ_n ?_
  refine aw_seq ?_
  refine aw_region ?_
  refine awl_runp 2 [0, 1, 6, 19] [] (ob := (True ∧ True ∧ True)) (st' := (⟨101, [(0, [], .v (.c (.p (.sl (.pr (.int .i64) .bool)) ops))), (1, [], .v (.c (.p (.sl (.int .i64)) post))), (6, [], .v (.c (.p (.int .i64) ret17v))), (19, [], .v (.c (.p .bool (!decide (ret17v = (0 : Int))))))], []⟩ : St)) (by kernel_rfl) ⟨trivial, trivial, trivial⟩ ?_
  refine awl_nil ?_
  refine thenQ_n ?_
  refine aw_cond (b := (!decide (ret17v = (0 : Int)))) (by kernel_rfl) (fun hb => ?_) (fun hb => ?_)
  · have h := h.1 hb
    refine aw_seq ?_
    refine aw_region ?_
    refine awl_runp 3 [4, 5] [] (ob := (True ∧ True ∧ True ∧ True)) (st' := (⟨101, [(4, [], .v (.c (.nils))), (5, [], .v (.c (.p (.int .i64) ret17v)))], []⟩ : St)) (by kernel_rfl) ⟨trivial, trivial, trivial, trivial⟩ ?_
    refine awl_nil ?_
    refine thenQ_n ?_
    refine aw_ret ?_
    refine thenQ_r ?_
    exact retQ_r (σ := (List Int) × Int) (R := (fun y => [toV1 (.sl (.int .i64)) y.1, toV1 (.int .i64) y.2])) (ob := (True ∧ True ∧ True)) (([] : (List Int)), ret17v) (by kernel_rfl) ⟨trivial, trivial, trivial⟩ h
  · have h := h.2 hb
    refine aw_skip ?_
    refine thenQ_n ?_
    refine aw_seq ?_
    refine aw_region ?_
    refine awl_runp 1 [0, 1, 7] [] (ob := (True ∧ True)) (st' := (⟨101, [(0, [], .v (.c (.p (.sl (.pr (.int .i64) .bool)) ops))), (1, [], .v (.c (.p (.sl (.int .i64)) post))), (7, [], .v (.c (.nils)))], []⟩ : St)) (by kernel_rfl) ⟨trivial, trivial⟩ ?_
    refine awl_nil ?_
    refine thenQ_n ?_
    refine aw_seq ?_
    refine aw_seq ?_
    refine aw_region ?_
    refine awl_runp 3 [0, 7, 21, 22, 23] [] (ob := (True ∧ True ∧ True ∧ True)) (st' := (⟨101, [(0, [], .v (.c (.p (.sl (.pr (.int .i64) .bool)) ops))), (7, [], .v (.c (.nils))), (21, [], .v (.c (.p (.sl (.int .i64)) post))), (22, [], .v (.c (.p (.int .i64) (post.length : Int)))), (23, [], .v (.c (.p (.int .i64) (0 : Int))))], []⟩ : St)) (by kernel_rfl) ⟨trivial, trivial, trivial, trivial⟩ ?_
    refine awl_nil ?_
    refine thenQ_n ?_
    refine withJoin (σ := (List ((List Int) × Int))) (fun s => (⟨101, [(7, [], .v (.c (.own 5007)))], [(5007, [], .arr 92 (.pr (.sl (.int .i64)) (.int .i64)) s)]⟩ : St)) (fun s => VC29_k1 K s) (fun stack h => ?_) (fun rest1 => ?_)
    · have h : VC29_k1 K stack := h
      unfold VC29_k1 at h
      refine thenQ_n ?_
      refine aw_seq ?_
      refine aw_seq ?_
      refine aw_region ?_
      refine awl_runp 3 [7, 90] [5007] (ob := (True ∧ True ∧ True ∧ True)) (st' := (⟨101, [(7, [], .v (.c (.own 5007))), (90, [], .v (.c (.p .bool (!decide ((stack.length : Int) = (1 : Int))))))], [(5007, [], .arr 92 (.pr (.sl (.int .i64)) (.int .i64)) stack)]⟩ : St)) (by kernel_rfl) ⟨trivial, trivial, trivial, trivial⟩ ?_
      refine awl_nil ?_
      refine thenQ_n ?_
      refine aw_cond (b := (!decide ((stack.length : Int) = (1 : Int)))) (by kernel_rfl) (fun hb => ?_) (fun hb => ?_)
      · have h := h.1 hb
        refine aw_seq ?_
        refine aw_region ?_
        refine awl_runp 2 [4, 5] [] (ob := (True ∧ True ∧ True)) (st' := (⟨101, [(4, [], .v (.c (.nils))), (5, [], .v (.c (.p (.int .i64) (5 : Int))))], []⟩ : St)) (by kernel_rfl) ⟨trivial, trivial, trivial⟩ ?_
        refine awl_nil ?_
        refine thenQ_n ?_
        refine aw_ret ?_
        refine thenQ_r ?_
        exact retQ_r (σ := (List Int) × Int) (R := (fun y => [toV1 (.sl (.int .i64)) y.1, toV1 (.int .i64) y.2])) (ob := (True ∧ True ∧ True)) (([] : (List Int)), (5 : Int)) (by kernel_rfl) ⟨trivial, trivial, trivial⟩ h
      · have h := h.2 hb
        refine aw_skip ?_
        refine thenQ_n ?_
        refine aw_seq ?_
        refine aw_seq ?_
        refine aw_region ?_
        obtain ⟨o1, h⟩ := h
        refine awl_runp 6 [7, 96] [5007] (ob := (True ∧ inIdx (0 : Int) stack.length ∧ True ∧ True ∧ True ∧ True ∧ True)) (st' := (⟨101, [(7, [], .v (.c (.own 5007))), (96, [], .v (.c (.p .bool (decide ((60 : Int) < (((stack.getD (((0 : Int)).toNat) (([] : (List Int)), (0 : Int))).1).length : Int))))))], [(5007, [], .arr 92 (.pr (.sl (.int .i64)) (.int .i64)) stack)]⟩ : St)) (by kernel_rfl) ⟨trivial, o1, trivial, trivial, trivial, trivial, trivial⟩ ?_
        refine awl_nil ?_
        refine thenQ_n ?_
        refine aw_cond (b := (decide ((60 : Int) < (((stack.getD (((0 : Int)).toNat) (([] : (List Int)), (0 : Int))).1).length : Int)))) (by kernel_rfl) (fun hb => ?_) (fun hb => ?_)
        · have h := h.1 hb
          refine aw_seq ?_
          refine aw_region ?_
          refine awl_runp 2 [4, 5] [] (ob := (True ∧ True ∧ True)) (st' := (⟨101, [(4, [], .v (.c (.nils))), (5, [], .v (.c (.p (.int .i64) (1 : Int))))], []⟩ : St)) (by kernel_rfl) ⟨trivial, trivial, trivial⟩ ?_
          refine awl_nil ?_
          refine thenQ_n ?_
          refine aw_ret ?_
          refine thenQ_r ?_
          exact retQ_r (σ := (List Int) × Int) (R := (fun y => [toV1 (.sl (.int .i64)) y.1, toV1 (.int .i64) y.2])) (ob := (True ∧ True ∧ True)) (([] : (List Int)), (1 : Int)) (by kernel_rfl) ⟨trivial, trivial, trivial⟩ h
        · have h := h.2 hb
          refine aw_skip ?_
          refine thenQ_n ?_
          refine aw_seq ?_
          refine aw_region ?_
          obtain ⟨o1, h⟩ := h
          refine awl_runp 6 [4, 5] [] (ob := (True ∧ inIdx (0 : Int) stack.length ∧ True ∧ True ∧ True ∧ True ∧ True)) (st' := (⟨101, [(4, [], .v (.c (.p (.sl (.int .i64)) ((stack.getD (((0 : Int)).toNat) (([] : (List Int)), (0 : Int))).1)))), (5, [], .v (.c (.p (.int .i64) (0 : Int))))], []⟩ : St)) (by kernel_rfl) ⟨trivial, o1, trivial, trivial, trivial, trivial, trivial⟩ ?_
          refine awl_nil ?_
          refine thenQ_n ?_
          refine aw_ret ?_
          exact retQ_r (σ := (List Int) × Int) (R := (fun y => [toV1 (.sl (.int .i64)) y.1, toV1 (.int .i64) y.2])) (ob := (True ∧ True ∧ True)) ((stack.getD (((0 : Int)).toNat) (([] : (List Int)), (0 : Int))).1, (0 : Int)) (by kernel_rfl) ⟨trivial, trivial, trivial⟩ h
    · refine aw_block ?_
      refine aw_conv [.nilOwn 7 5007 92 (.pr (.sl (.int .i64)) (.int .i64)), .prune [0, 7, 21, 22, 23] [5007]] (st' := (⟨101, [(0, [], .v (.c (.p (.sl (.pr (.int .i64) .bool)) ops))), (7, [], .v (.c (.own 5007))), (21, [], .v (.c (.p (.sl (.int .i64)) post))), (22, [], .v (.c (.p (.int .i64) (post.length : Int)))), (23, [], .v (.c (.p (.int .i64) (0 : Int))))], [(5007, [], .arr 92 (.pr (.sl (.int .i64)) (.int .i64)) ([] : List ((List Int) × Int)))]⟩ : St)) (by kernel_rfl) ?_
      refine aw_loop (σ := Int × (List ((List Int) × Int))) (fun s => (⟨101, [(0, [], .v (.c (.p (.sl (.pr (.int .i64) .bool)) ops))), (7, [], .v (.c (.own 5007))), (21, [], .v (.c (.p (.sl (.int .i64)) post))), (22, [], .v (.c (.p (.int .i64) (post.length : Int)))), (23, [], .v (.c (.p (.int .i64) s.1)))], [(5007, [], .arr 92 (.pr (.sl (.int .i64)) (.int .i64)) s.2)]⟩ : St)) (fun s X => VC29_l1 ops post K s.1 s.2 X) (s0 := ((0 : Int), ([] : List ((List Int) × Int)))) (fun s X1 h => ?_) h
      obtain ⟨v23, stack⟩ := s
      have h : VC29_l1 ops post K v23 stack X1 := h
      unfold VC29_l1 at h
      refine aw_seq ?_
      refine aw_region ?_
      refine awl_runp 1 [0, 7, 21, 22, 23, 24] [5007] (ob := (True ∧ True)) (st' := (⟨101, [(0, [], .v (.c (.p (.sl (.pr (.int .i64) .bool)) ops))), (7, [], .v (.c (.own 5007))), (21, [], .v (.c (.p (.sl (.int .i64)) post))), (22, [], .v (.c (.p (.int .i64) (post.length : Int)))), (23, [], .v (.c (.p (.int .i64) v23))), (24, [], .v (.c (.p .bool (decide (v23 < (post.length : Int))))))], [(5007, [], .arr 92 (.pr (.sl (.int .i64)) (.int .i64)) stack)]⟩ : St)) (by kernel_rfl) ⟨trivial, trivial⟩ ?_
      refine awl_nil ?_
      refine thenQ_n ?_
      refine aw_seq ?_
      refine aw_cond (b := (decide (v23 < (post.length : Int)))) (by kernel_rfl) (fun hb => ?_) (fun hb => ?_)
      · have h := h.1 hb
        refine aw_skip ?_
        refine thenQ_n ?_
        refine aw_seq ?_
        refine withJoin (σ := (List ((List Int) × Int))) (fun s => (⟨101, [(0, [], .v (.c (.p (.sl (.pr (.int .i64) .bool)) ops))), (7, [], .v (.c (.own 34))), (21, [], .v (.c (.p (.sl (.int .i64)) post))), (22, [], .v (.c (.p (.int .i64) (post.length : Int)))), (23, [], .v (.c (.p (.int .i64) v23)))], [(34, [], .arr 92 (.pr (.sl (.int .i64)) (.int .i64)) s)]⟩ : St)) (fun s => VC29_k2 v23 X1 s) (fun stack2 h => ?_) (fun rest2 => ?_)
        · have h : VC29_k2 v23 X1 stack2 := h
          unfold VC29_k2 at h
          refine thenQ_n ?_
          refine aw_region ?_
          obtain ⟨o1, h⟩ := h
          refine awl_runp 2 [0, 7, 21, 22, 23] [34] (ob := (InR (v23 + (1 : Int)) ∧ True ∧ True)) (st' := (⟨101, [(0, [], .v (.c (.p (.sl (.pr (.int .i64) .bool)) ops))), (7, [], .v (.c (.own 34))), (21, [], .v (.c (.p (.sl (.int .i64)) post))), (22, [], .v (.c (.p (.int .i64) (post.length : Int)))), (23, [], .v (.c (.p (.int .i64) (v23 + (1 : Int)))))], [(34, [], .arr 92 (.pr (.sl (.int .i64)) (.int .i64)) stack2)]⟩ : St)) (by kernel_rfl) ⟨o1, trivial, trivial⟩ ?_
          refine awl_conv [.ren 34 20034, .ren 20034 5007] (st' := (⟨101, [(0, [], .v (.c (.p (.sl (.pr (.int .i64) .bool)) ops))), (7, [], .v (.c (.own 5007))), (21, [], .v (.c (.p (.sl (.int .i64)) post))), (22, [], .v (.c (.p (.int .i64) (post.length : Int)))), (23, [], .v (.c (.p (.int .i64) (v23 + (1 : Int)))))], [(5007, [], .arr 92 (.pr (.sl (.int .i64)) (.int .i64)) stack2)]⟩ : St)) (by kernel_rfl) ?_
          refine awl_nil ?_
          exact thenQ_n ⟨((v23 + (1 : Int)), stack2), rfl, h⟩
        · refine aw_block ?_
          refine aw_seq ?_
          refine aw_region ?_
          obtain ⟨o1, h⟩ := h
          refine awl_runp 3 [0, 7, 9, 21, 22, 23] [5007] (ob := (inIdx v23 post.length ∧ True ∧ True ∧ True)) (st' := (⟨101, [(0, [], .v (.c (.p (.sl (.pr (.int .i64) .bool)) ops))), (7, [], .v (.c (.own 5007))), (9, [], .v (.c (.p (.int .i64) (post.getD (v23).toNat (0 : Int))))), (21, [], .v (.c (.p (.sl (.int .i64)) post))), (22, [], .v (.c (.p (.int .i64) (post.length : Int)))), (23, [], .v (.c (.p (.int .i64) v23)))], [(5007, [], .arr 92 (.pr (.sl (.int .i64)) (.int .i64)) stack)]⟩ : St)) (by kernel_rfl) ⟨o1, trivial, trivial, trivial⟩ ?_
          refine awl_nil ?_
          refine thenQ_n ?_
          refine aw_seq ?_
          refine aw_seq ?_
          refine aw_region ?_
          refine awl_runp 2 [0, 7, 9, 21, 22, 23, 28] [5007] (ob := (True ∧ True ∧ True)) (st' := (⟨101, [(0, [], .v (.c (.p (.sl (.pr (.int .i64) .bool)) ops))), (7, [], .v (.c (.own 5007))), (9, [], .v (.c (.p (.int .i64) (post.getD (v23).toNat (0 : Int))))), (21, [], .v (.c (.p (.sl (.int .i64)) post))), (22, [], .v (.c (.p (.int .i64) (post.length : Int)))), (23, [], .v (.c (.p (.int .i64) v23))), (28, [], .v (.c (.p .bool (decide ((100 : Int) ≤ (post.getD (v23).toNat (0 : Int)))))))], [(5007, [], .arr 92 (.pr (.sl (.int .i64)) (.int .i64)) stack)]⟩ : St)) (by kernel_rfl) ⟨trivial, trivial, trivial⟩ ?_
          refine awl_nil ?_
          refine thenQ_n ?_
          refine aw_cond (b := (decide ((100 : Int) ≤ (post.getD (v23).toNat (0 : Int))))) (by kernel_rfl) (fun hb => ?_) (fun hb => ?_)
          · have h := h.1 hb
            refine aw_seq ?_
            refine aw_region ?_
            refine awl_runp 4 [0, 21, 22, 23, 29, 32] [31, 5007] (ob := (True ∧ True ∧ True ∧ True ∧ True)) (st' := (⟨101, [(0, [], .v (.c (.p (.sl (.pr (.int .i64) .bool)) ops))), (21, [], .v (.c (.p (.sl (.int .i64)) post))), (22, [], .v (.c (.p (.int .i64) (post.length : Int)))), (23, [], .v (.c (.p (.int .i64) v23))), (29, [], .v (.c (.own 5007))), (32, [], .v (.agg [.own 31, .p (.int .i64) (-1 : Int)]))], [(31, [], .arr 3 (.int .i64) [(post.getD (v23).toNat (0 : Int))]), (5007, [], .arr 92 (.pr (.sl (.int .i64)) (.int .i64)) stack)]⟩ : St)) (by kernel_rfl) ⟨trivial, trivial, trivial, trivial, trivial⟩ ?_
            refine awl_conv [.freeze 31] (st' := (⟨101, [(0, [], .v (.c (.p (.sl (.pr (.int .i64) .bool)) ops))), (21, [], .v (.c (.p (.sl (.int .i64)) post))), (22, [], .v (.c (.p (.int .i64) (post.length : Int)))), (23, [], .v (.c (.p (.int .i64) v23))), (29, [], .v (.c (.own 5007))), (32, [], .v (.agg [.p (.sl (.int .i64)) [(post.getD (v23).toNat (0 : Int))], .p (.int .i64) (-1 : Int)]))], [(5007, [], .arr 92 (.pr (.sl (.int .i64)) (.int .i64)) stack)]⟩ : St)) (by kernel_rfl) ?_
            obtain ⟨o1, h⟩ := h
            refine awl_runp 3 [0, 7, 21, 22, 23] [34] (ob := (True ∧ roomN (stack.length + [([(post.getD (v23).toNat (0 : Int))], (-1 : Int))].length) ∧ True ∧ True)) (st' := (⟨101, [(0, [], .v (.c (.p (.sl (.pr (.int .i64) .bool)) ops))), (7, [], .v (.c (.own 34))), (21, [], .v (.c (.p (.sl (.int .i64)) post))), (22, [], .v (.c (.p (.int .i64) (post.length : Int)))), (23, [], .v (.c (.p (.int .i64) v23)))], [(34, [], .arr 92 (.pr (.sl (.int .i64)) (.int .i64)) (stack ++ [([(post.getD (v23).toNat (0 : Int))], (-1 : Int))]))]⟩ : St)) (by kernel_rfl) ⟨trivial, o1, trivial, trivial⟩ ?_
            refine awl_nil ?_
            refine thenQ_n ?_
            refine aw_exit ?_
            refine thenQ_x ?_
            refine blockQ_hit ?_
            exact rest2 (stack ++ [([(post.getD (v23).toNat (0 : Int))], (-1 : Int))]) h
          · have h := h.2 hb
            refine aw_skip ?_
            refine thenQ_n ?_
            refine aw_seq ?_
            refine aw_region ?_
            obtain ⟨o1, h⟩ := h
            refine awl_runp 4 [0, 7, 9, 10, 21, 22, 23] [5007] (ob := (True ∧ True ∧ InR ((stack.length : Int) - (2 : Int)) ∧ True ∧ True)) (st' := (⟨101, [(0, [], .v (.c (.p (.sl (.pr (.int .i64) .bool)) ops))), (7, [], .v (.c (.own 5007))), (9, [], .v (.c (.p (.int .i64) (post.getD (v23).toNat (0 : Int))))), (10, [], .v (.c (.p (.int .i64) ((stack.length : Int) - (2 : Int))))), (21, [], .v (.c (.p (.sl (.int .i64)) post))), (22, [], .v (.c (.p (.int .i64) (post.length : Int)))), (23, [], .v (.c (.p (.int .i64) v23)))], [(5007, [], .arr 92 (.pr (.sl (.int .i64)) (.int .i64)) stack)]⟩ : St)) (by kernel_rfl) ⟨trivial, trivial, o1, trivial, trivial⟩ ?_
            refine awl_nil ?_
            refine thenQ_n ?_
            refine aw_seq ?_
            refine aw_seq ?_
            refine aw_region ?_
            refine awl_runp 2 [0, 7, 9, 10, 21, 22, 23, 39] [5007] (ob := (True ∧ True ∧ True)) (st' := (⟨101, [(0, [], .v (.c (.p (.sl (.pr (.int .i64) .bool)) ops))), (7, [], .v (.c (.own 5007))), (9, [], .v (.c (.p (.int .i64) (post.getD (v23).toNat (0 : Int))))), (10, [], .v (.c (.p (.int .i64) ((stack.length : Int) - (2 : Int))))), (21, [], .v (.c (.p (.sl (.int .i64)) post))), (22, [], .v (.c (.p (.int .i64) (post.length : Int)))), (23, [], .v (.c (.p (.int .i64) v23))), (39, [], .v (.c (.p .bool (decide (((stack.length : Int) - (2 : Int)) < (0 : Int))))))], [(5007, [], .arr 92 (.pr (.sl (.int .i64)) (.int .i64)) stack)]⟩ : St)) (by kernel_rfl) ⟨trivial, trivial, trivial⟩ ?_
            refine awl_nil ?_
            refine thenQ_n ?_
            refine aw_cond (b := (decide (((stack.length : Int) - (2 : Int)) < (0 : Int)))) (by kernel_rfl) (fun hb => ?_) (fun hb => ?_)
            · have h := h.1 hb
              refine aw_seq ?_
              refine aw_region ?_
              refine awl_runp 2 [4, 5] [] (ob := (True ∧ True ∧ True)) (st' := (⟨101, [(4, [], .v (.c (.nils))), (5, [], .v (.c (.p (.int .i64) (5 : Int))))], []⟩ : St)) (by kernel_rfl) ⟨trivial, trivial, trivial⟩ ?_
              refine awl_nil ?_
              refine thenQ_n ?_
              refine aw_ret ?_
              refine thenQ_r ?_
              refine blockQ_r ?_
              refine thenQ_r ?_
              refine thenQ_r ?_
              refine blockQ_r ?_
              refine thenQ_r ?_
              exact retQ_r (σ := (List Int) × Int) (R := (fun y => [toV1 (.sl (.int .i64)) y.1, toV1 (.int .i64) y.2])) (ob := (True ∧ True ∧ True)) (([] : (List Int)), (5 : Int)) (by kernel_rfl) ⟨trivial, trivial, trivial⟩ h
            · have h := h.2 hb
              refine aw_skip ?_
              refine thenQ_n ?_
              refine aw_seq ?_
              refine awd_begin [11, 12] (by kernel_rfl) ?_
              refine awd_memo (gcall (α := Bool) (decide ((0 : Int) ≤ (stack.getD ((((stack.length : Int) - (2 : Int))).toNat) (([] : (List Int)), (0 : Int))).2)) (VC55 ops ((stack.getD ((((stack.length : Int) - (2 : Int))).toNat) (([] : (List Int)), (0 : Int))).2) (post.getD (v23).toNat (0 : Int))) false (fun (ret58v : Bool) => VC54 (stack.getD ((((stack.length : Int) - (2 : Int))).toNat) (([] : (List Int)), (0 : Int))) ((decide ((0 : Int) ≤ (stack.getD ((((stack.length : Int) - (2 : Int))).toNat) (([] : (List Int)), (0 : Int))).2)) && (!ret58v)) (fun (ret61v : (List Int)) => gcall (α := Bool) (decide ((0 : Int) ≤ (stack.getD (((((stack.length : Int) - (2 : Int)) + (1 : Int))).toNat) (([] : (List Int)), (0 : Int))).2)) (VC55 ops (post.getD (v23).toNat (0 : Int)) ((stack.getD (((((stack.length : Int) - (2 : Int)) + (1 : Int))).toNat) (([] : (List Int)), (0 : Int))).2)) false (fun (ret71v : Bool) => VC54 (stack.getD (((((stack.length : Int) - (2 : Int)) + (1 : Int))).toNat) (([] : (List Int)), (0 : Int))) ((decide ((0 : Int) ≤ (stack.getD (((((stack.length : Int) - (2 : Int)) + (1 : Int))).toNat) (([] : (List Int)), (0 : Int))).2)) && ret71v) (fun (ret73v : (List Int)) => ((0 ≤ ((stack.length : Int) - (2 : Int)) ∧ ((stack.length : Int) - (2 : Int)) ≤ (stack.length : Int)) ∧ VC56 [ret61v, [(post.getD (v23).toNat (0 : Int))], ret73v] (fun (ret82v : (List Int)) => (roomN ((stack.take ((((stack.length : Int) - (2 : Int))).toNat)).length + [(ret82v, (post.getD (v23).toNat (0 : Int)))].length) ∧ VC29_k2 v23 X1 ((stack.take ((((stack.length : Int) - (2 : Int))).toNat)) ++ [(ret82v, (post.getD (v23).toNat (0 : Int)))]))))))))) [10, 9, 8, 7, 6, 5, 4, 3, 2, 1, 0] (⟨101, [(0, [], .v (.c (.p (.sl (.pr (.int .i64) .bool)) ops))), (7, [], .v (.c (.own 5007))), (9, [], .v (.c (.p (.int .i64) (post.getD (v23).toNat (0 : Int))))), (10, [], .v (.c (.p (.int .i64) ((stack.length : Int) - (2 : Int))))), (11, [], .v (.c (.ptr 11 0))), (12, [], .v (.c (.ptr 12 0))), (21, [], .v (.c (.p (.sl (.int .i64)) post))), (22, [], .v (.c (.p (.int .i64) (post.length : Int)))), (23, [], .v (.c (.p (.int .i64) v23))), (43, [], .v (.agg [.p (.sl (.int .i64)) ((stack.getD ((((stack.length : Int) - (2 : Int))).toNat) (([] : (List Int)), (0 : Int))).1), .p (.int .i64) ((stack.getD ((((stack.length : Int) - (2 : Int))).toNat) (([] : (List Int)), (0 : Int))).2)])), (48, [], .v (.agg [.p (.sl (.int .i64)) ((stack.getD (((((stack.length : Int) - (2 : Int)) + (1 : Int))).toNat) (([] : (List Int)), (0 : Int))).1), .p (.int .i64) ((stack.getD (((((stack.length : Int) - (2 : Int)) + (1 : Int))).toNat) (([] : (List Int)), (0 : Int))).2)]))], [(11, [], .box [.nils, .p (.int .i64) (0 : Int)]), (12, [], .box [.nils, .p (.int .i64) (0 : Int)]), (5007, [], .arr 92 (.pr (.sl (.int .i64)) (.int .i64)) stack)]⟩ : St) (fun h => ?_) (fun m1 => ?_)
              · refine awd_one (i := 11) (by kernel_rfl) ?_
                refine adop_stepp [0, 7, 9, 10, 11, 12, 21, 22, 23, 48] [11, 12, 5007] (ob := True) (st' := (⟨101, [(0, [], .v (.c (.p (.sl (.pr (.int .i64) .bool)) ops))), (7, [], .v (.c (.own 5007))), (9, [], .v (.c (.p (.int .i64) (post.getD (v23).toNat (0 : Int))))), (10, [], .v (.c (.p (.int .i64) ((stack.length : Int) - (2 : Int))))), (11, [], .v (.c (.ptr 11 0))), (12, [], .v (.c (.ptr 12 0))), (21, [], .v (.c (.p (.sl (.int .i64)) post))), (22, [], .v (.c (.p (.int .i64) (post.length : Int)))), (23, [], .v (.c (.p (.int .i64) v23))), (48, [], .v (.agg [.p (.sl (.int .i64)) ((stack.getD (((((stack.length : Int) - (2 : Int)) + (1 : Int))).toNat) (([] : (List Int)), (0 : Int))).1), .p (.int .i64) ((stack.getD (((((stack.length : Int) - (2 : Int)) + (1 : Int))).toNat) (([] : (List Int)), (0 : Int))).2)]))], [(11, [], .box [.p (.sl (.int .i64)) ((stack.getD ((((stack.length : Int) - (2 : Int))).toNat) (([] : (List Int)), (0 : Int))).1), .p (.int .i64) ((stack.getD ((((stack.length : Int) - (2 : Int))).toNat) (([] : (List Int)), (0 : Int))).2)]), (12, [], .box [.nils, .p (.int .i64) (0 : Int)]), (5007, [], .arr 92 (.pr (.sl (.int .i64)) (.int .i64)) stack)]⟩ : St)) rfl (by kernel_rfl) trivial ?_
                refine awd_one (i := 12) (by kernel_rfl) ?_
                refine adop_stepp [0, 7, 9, 10, 11, 12, 21, 22, 23] [11, 12, 5007] (ob := True) (st' := (⟨101, [(0, [], .v (.c (.p (.sl (.pr (.int .i64) .bool)) ops))), (7, [], .v (.c (.own 5007))), (9, [], .v (.c (.p (.int .i64) (post.getD (v23).toNat (0 : Int))))), (10, [], .v (.c (.p (.int .i64) ((stack.length : Int) - (2 : Int))))), (11, [], .v (.c (.ptr 11 0))), (12, [], .v (.c (.ptr 12 0))), (21, [], .v (.c (.p (.sl (.int .i64)) post))), (22, [], .v (.c (.p (.int .i64) (post.length : Int)))), (23, [], .v (.c (.p (.int .i64) v23)))], [(11, [], .box [.p (.sl (.int .i64)) ((stack.getD ((((stack.length : Int) - (2 : Int))).toNat) (([] : (List Int)), (0 : Int))).1), .p (.int .i64) ((stack.getD ((((stack.length : Int) - (2 : Int))).toNat) (([] : (List Int)), (0 : Int))).2)]), (12, [], .box [.p (.sl (.int .i64)) ((stack.getD (((((stack.length : Int) - (2 : Int)) + (1 : Int))).toNat) (([] : (List Int)), (0 : Int))).1), .p (.int .i64) ((stack.getD (((((stack.length : Int) - (2 : Int)) + (1 : Int))).toNat) (([] : (List Int)), (0 : Int))).2)]), (5007, [], .arr 92 (.pr (.sl (.int .i64)) (.int .i64)) stack)]⟩ : St)) rfl (by kernel_rfl) trivial ?_
                refine awd_done (by kernel_rfl) ?_
                refine thenQ_n ?_
                refine aw_seq ?_
                refine awd_begin [] (by kernel_rfl) ?_
                refine awd_runp (by kernel_rfl) [0, 1, 2, 3, 4, 5, 6, 7, 8] [0, 7, 9, 10, 12, 21, 22, 23, 49, 53, 54, 56, 57] [12, 5007] (ob := (True ∧ True ∧ True ∧ True ∧ True ∧ ((decide ((0 : Int) ≤ (stack.getD ((((stack.length : Int) - (2 : Int))).toNat) (([] : (List Int)), (0 : Int))).2)) = true → True) ∧ ((decide ((0 : Int) ≤ (stack.getD ((((stack.length : Int) - (2 : Int))).toNat) (([] : (List Int)), (0 : Int))).2)) = true → True) ∧ ((decide ((0 : Int) ≤ (stack.getD ((((stack.length : Int) - (2 : Int))).toNat) (([] : (List Int)), (0 : Int))).2)) = true → True) ∧ ((decide ((0 : Int) ≤ (stack.getD ((((stack.length : Int) - (2 : Int))).toNat) (([] : (List Int)), (0 : Int))).2)) = true → True) ∧ True)) (done' := [8, 7, 6, 5, 4, 3, 2, 1, 0]) (st' := (⟨101, [(0, [], .v (.c (.p (.sl (.pr (.int .i64) .bool)) ops))), (7, [], .v (.c (.own 5007))), (9, [], .v (.c (.p (.int .i64) (post.getD (v23).toNat (0 : Int))))), (10, [], .v (.c (.p (.int .i64) ((stack.length : Int) - (2 : Int))))), (12, [], .v (.c (.ptr 12 0))), (21, [], .v (.c (.p (.sl (.int .i64)) post))), (22, [], .v (.c (.p (.int .i64) (post.length : Int)))), (23, [], .v (.c (.p (.int .i64) v23))), (49, [], .v (.agg [.p (.sl (.int .i64)) ((stack.getD ((((stack.length : Int) - (2 : Int))).toNat) (([] : (List Int)), (0 : Int))).1), .p (.int .i64) ((stack.getD ((((stack.length : Int) - (2 : Int))).toNat) (([] : (List Int)), (0 : Int))).2)])), (53, [], .v (.c (.p .bool (decide ((0 : Int) ≤ (stack.getD ((((stack.length : Int) - (2 : Int))).toNat) (([] : (List Int)), (0 : Int))).2))))), (54, [(53, true)], .v (.c (.p (.sl (.pr (.int .i64) .bool)) ops))), (56, [(53, true)], .v (.c (.p (.int .i64) ((stack.getD ((((stack.length : Int) - (2 : Int))).toNat) (([] : (List Int)), (0 : Int))).2)))), (57, [(53, true)], .v (.c (.p (.int .i64) (post.getD (v23).toNat (0 : Int)))))], [(12, [], .box [.p (.sl (.int .i64)) ((stack.getD (((((stack.length : Int) - (2 : Int)) + (1 : Int))).toNat) (([] : (List Int)), (0 : Int))).1), .p (.int .i64) ((stack.getD (((((stack.length : Int) - (2 : Int)) + (1 : Int))).toNat) (([] : (List Int)), (0 : Int))).2)]), (5007, [], .arr 92 (.pr (.sl (.int .i64)) (.int .i64)) stack)]⟩ : St)) (by kernel_rfl) ⟨trivial, trivial, trivial, trivial, trivial, (fun _ => trivial), (fun _ => trivial), (fun _ => trivial), (fun _ => trivial), trivial⟩ ?_
                refine awd_one (i := 9) (by kernel_rfl) ?_
                refine adop_callk (p := [(53, true)]) (l := [toV1 (.sl (.pr (.int .i64) .bool)) ops, toV1 (.int .i64) ((stack.getD ((((stack.length : Int) - (2 : Int))).toNat) (([] : (List Int)), (0 : Int))).2), toV1 (.int .i64) (post.getD (v23).toNat (0 : Int))]) (cl := []) false [.d (.sl (.pr (.int .i64) .bool)), .d (.int .i64), .d (.int .i64)] [0, 7, 9, 10, 12, 21, 22, 23, 49, 53, 58] [12, 5007] (fun (ret58v : Bool) => VC54 (stack.getD ((((stack.length : Int) - (2 : Int))).toNat) (([] : (List Int)), (0 : Int))) ((decide ((0 : Int) ≤ (stack.getD ((((stack.length : Int) - (2 : Int))).toNat) (([] : (List Int)), (0 : Int))).2)) && (!ret58v)) (fun (ret61v : (List Int)) => gcall (α := Bool) (decide ((0 : Int) ≤ (stack.getD (((((stack.length : Int) - (2 : Int)) + (1 : Int))).toNat) (([] : (List Int)), (0 : Int))).2)) (VC55 ops (post.getD (v23).toNat (0 : Int)) ((stack.getD (((((stack.length : Int) - (2 : Int)) + (1 : Int))).toNat) (([] : (List Int)), (0 : Int))).2)) false (fun (ret71v : Bool) => VC54 (stack.getD (((((stack.length : Int) - (2 : Int)) + (1 : Int))).toNat) (([] : (List Int)), (0 : Int))) ((decide ((0 : Int) ≤ (stack.getD (((((stack.length : Int) - (2 : Int)) + (1 : Int))).toNat) (([] : (List Int)), (0 : Int))).2)) && ret71v) (fun (ret73v : (List Int)) => ((0 ≤ ((stack.length : Int) - (2 : Int)) ∧ ((stack.length : Int) - (2 : Int)) ≤ (stack.length : Int)) ∧ VC56 [ret61v, [(post.getD (v23).toNat (0 : Int))], ret73v] (fun (ret82v : (List Int)) => (roomN ((stack.take ((((stack.length : Int) - (2 : Int))).toNat)).length + [(ret82v, (post.getD (v23).toNat (0 : Int)))].length) ∧ VC29_k2 v23 X1 ((stack.take ((((stack.length : Int) - (2 : Int))).toNat)) ++ [(ret82v, (post.getD (v23).toNat (0 : Int)))])))))))) (fun ret58v => [toV1 .bool ret58v]) (fun ret58v => (⟨101, [(0, [], .v (.c (.p (.sl (.pr (.int .i64) .bool)) ops))), (7, [], .v (.c (.own 5007))), (9, [], .v (.c (.p (.int .i64) (post.getD (v23).toNat (0 : Int))))), (10, [], .v (.c (.p (.int .i64) ((stack.length : Int) - (2 : Int))))), (12, [], .v (.c (.ptr 12 0))), (21, [], .v (.c (.p (.sl (.int .i64)) post))), (22, [], .v (.c (.p (.int .i64) (post.length : Int)))), (23, [], .v (.c (.p (.int .i64) v23))), (49, [], .v (.agg [.p (.sl (.int .i64)) ((stack.getD ((((stack.length : Int) - (2 : Int))).toNat) (([] : (List Int)), (0 : Int))).1), .p (.int .i64) ((stack.getD ((((stack.length : Int) - (2 : Int))).toNat) (([] : (List Int)), (0 : Int))).2)])), (53, [], .v (.c (.p .bool (decide ((0 : Int) ≤ (stack.getD ((((stack.length : Int) - (2 : Int))).toNat) (([] : (List Int)), (0 : Int))).2))))), (58, [(53, true)], .v (.c (.p .bool ret58v)))], [(12, [], .box [.p (.sl (.int .i64)) ((stack.getD (((((stack.length : Int) - (2 : Int)) + (1 : Int))).toNat) (([] : (List Int)), (0 : Int))).1), .p (.int .i64) ((stack.getD (((((stack.length : Int) - (2 : Int)) + (1 : Int))).toNat) (([] : (List Int)), (0 : Int))).2)]), (5007, [], .arr 92 (.pr (.sl (.int .i64)) (.int .i64)) stack)]⟩ : St)) rfl (by kernel_rfl) rfl (by kernel_rfl) rfl (by kernel_rfl) Try.call55 (by kernel_rfl) (fun ret58v => by kernel_rfl) (fun e => by cases e) (fun hg => link55 ops ((stack.getD ((((stack.length : Int) - (2 : Int))).toNat) (([] : (List Int)), (0 : Int))).2) (post.getD (v23).toNat (0 : Int)) _ (by have := gcall_T h (show (decide ((0 : Int) ≤ (stack.getD ((((stack.length : Int) - (2 : Int))).toNat) (([] : (List Int)), (0 : Int))).2)) = true from hg); exact this)) (fun hg => ⟨false, by have := gcall_F h (show (decide ((0 : Int) ≤ (stack.getD ((((stack.length : Int) - (2 : Int))).toNat) (([] : (List Int)), (0 : Int))).2)) = false from hg); exact this⟩) (fun ret58v h => ?_)
                have h : VC54 (stack.getD ((((stack.length : Int) - (2 : Int))).toNat) (([] : (List Int)), (0 : Int))) ((decide ((0 : Int) ≤ (stack.getD ((((stack.length : Int) - (2 : Int))).toNat) (([] : (List Int)), (0 : Int))).2)) && (!ret58v)) (fun (ret61v : (List Int)) => gcall (α := Bool) (decide ((0 : Int) ≤ (stack.getD (((((stack.length : Int) - (2 : Int)) + (1 : Int))).toNat) (([] : (List Int)), (0 : Int))).2)) (VC55 ops (post.getD (v23).toNat (0 : Int)) ((stack.getD (((((stack.length : Int) - (2 : Int)) + (1 : Int))).toNat) (([] : (List Int)), (0 : Int))).2)) false (fun (ret71v : Bool) => VC54 (stack.getD (((((stack.length : Int) - (2 : Int)) + (1 : Int))).toNat) (([] : (List Int)), (0 : Int))) ((decide ((0 : Int) ≤ (stack.getD (((((stack.length : Int) - (2 : Int)) + (1 : Int))).toNat) (([] : (List Int)), (0 : Int))).2)) && ret71v) (fun (ret73v : (List Int)) => ((0 ≤ ((stack.length : Int) - (2 : Int)) ∧ ((stack.length : Int) - (2 : Int)) ≤ (stack.length : Int)) ∧ VC56 [ret61v, [(post.getD (v23).toNat (0 : Int))], ret73v] (fun (ret82v : (List Int)) => (roomN ((stack.take ((((stack.length : Int) - (2 : Int))).toNat)).length + [(ret82v, (post.getD (v23).toNat (0 : Int)))].length) ∧ VC29_k2 v23 X1 ((stack.take ((((stack.length : Int) - (2 : Int))).toNat)) ++ [(ret82v, (post.getD (v23).toNat (0 : Int)))]))))))) := h
                refine awd_runp (by kernel_rfl) [10, 11] [0, 7, 9, 10, 12, 21, 22, 23, 49, 60] [12, 5007] (ob := (((decide ((0 : Int) ≤ (stack.getD ((((stack.length : Int) - (2 : Int))).toNat) (([] : (List Int)), (0 : Int))).2)) = true → True) ∧ True ∧ True)) (done' := [11, 10, 9, 8, 7, 6, 5, 4, 3, 2, 1, 0]) (st' := (⟨101, [(0, [], .v (.c (.p (.sl (.pr (.int .i64) .bool)) ops))), (7, [], .v (.c (.own 5007))), (9, [], .v (.c (.p (.int .i64) (post.getD (v23).toNat (0 : Int))))), (10, [], .v (.c (.p (.int .i64) ((stack.length : Int) - (2 : Int))))), (12, [], .v (.c (.ptr 12 0))), (21, [], .v (.c (.p (.sl (.int .i64)) post))), (22, [], .v (.c (.p (.int .i64) (post.length : Int)))), (23, [], .v (.c (.p (.int .i64) v23))), (49, [], .v (.agg [.p (.sl (.int .i64)) ((stack.getD ((((stack.length : Int) - (2 : Int))).toNat) (([] : (List Int)), (0 : Int))).1), .p (.int .i64) ((stack.getD ((((stack.length : Int) - (2 : Int))).toNat) (([] : (List Int)), (0 : Int))).2)])), (60, [], .v (.c (.p .bool ((decide ((0 : Int) ≤ (stack.getD ((((stack.length : Int) - (2 : Int))).toNat) (([] : (List Int)), (0 : Int))).2)) && (!ret58v)))))], [(12, [], .box [.p (.sl (.int .i64)) ((stack.getD (((((stack.length : Int) - (2 : Int)) + (1 : Int))).toNat) (([] : (List Int)), (0 : Int))).1), .p (.int .i64) ((stack.getD (((((stack.length : Int) - (2 : Int)) + (1 : Int))).toNat) (([] : (List Int)), (0 : Int))).2)]), (5007, [], .arr 92 (.pr (.sl (.int .i64)) (.int .i64)) stack)]⟩ : St)) (by kernel_rfl) ⟨(fun _ => trivial), trivial, trivial⟩ ?_
                refine awd_one (i := 12) (by kernel_rfl) ?_
                refine adop_callk (p := []) (l := [toV1 (.pr (.sl (.int .i64)) (.int .i64)) (stack.getD ((((stack.length : Int) - (2 : Int))).toNat) (([] : (List Int)), (0 : Int))), toV1 .bool ((decide ((0 : Int) ≤ (stack.getD ((((stack.length : Int) - (2 : Int))).toNat) (([] : (List Int)), (0 : Int))).2)) && (!ret58v))]) (cl := []) false [.d (.pr (.sl (.int .i64)) (.int .i64)), .d .bool] [0, 7, 9, 10, 12, 21, 22, 23, 61] [12, 5007] (fun (ret61v : (List Int)) => gcall (α := Bool) (decide ((0 : Int) ≤ (stack.getD (((((stack.length : Int) - (2 : Int)) + (1 : Int))).toNat) (([] : (List Int)), (0 : Int))).2)) (VC55 ops (post.getD (v23).toNat (0 : Int)) ((stack.getD (((((stack.length : Int) - (2 : Int)) + (1 : Int))).toNat) (([] : (List Int)), (0 : Int))).2)) false (fun (ret71v : Bool) => VC54 (stack.getD (((((stack.length : Int) - (2 : Int)) + (1 : Int))).toNat) (([] : (List Int)), (0 : Int))) ((decide ((0 : Int) ≤ (stack.getD (((((stack.length : Int) - (2 : Int)) + (1 : Int))).toNat) (([] : (List Int)), (0 : Int))).2)) && ret71v) (fun (ret73v : (List Int)) => ((0 ≤ ((stack.length : Int) - (2 : Int)) ∧ ((stack.length : Int) - (2 : Int)) ≤ (stack.length : Int)) ∧ VC56 [ret61v, [(post.getD (v23).toNat (0 : Int))], ret73v] (fun (ret82v : (List Int)) => (roomN ((stack.take ((((stack.length : Int) - (2 : Int))).toNat)).length + [(ret82v, (post.getD (v23).toNat (0 : Int)))].length) ∧ VC29_k2 v23 X1 ((stack.take ((((stack.length : Int) - (2 : Int))).toNat)) ++ [(ret82v, (post.getD (v23).toNat (0 : Int)))]))))))) (fun ret61v => [toV1 (.sl (.int .i64)) ret61v]) (fun ret61v => (⟨101, [(0, [], .v (.c (.p (.sl (.pr (.int .i64) .bool)) ops))), (7, [], .v (.c (.own 5007))), (9, [], .v (.c (.p (.int .i64) (post.getD (v23).toNat (0 : Int))))), (10, [], .v (.c (.p (.int .i64) ((stack.length : Int) - (2 : Int))))), (12, [], .v (.c (.ptr 12 0))), (21, [], .v (.c (.p (.sl (.int .i64)) post))), (22, [], .v (.c (.p (.int .i64) (post.length : Int)))), (23, [], .v (.c (.p (.int .i64) v23))), (61, [], .v (.c (.p (.sl (.int .i64)) ret61v)))], [(12, [], .box [.p (.sl (.int .i64)) ((stack.getD (((((stack.length : Int) - (2 : Int)) + (1 : Int))).toNat) (([] : (List Int)), (0 : Int))).1), .p (.int .i64) ((stack.getD (((((stack.length : Int) - (2 : Int)) + (1 : Int))).toNat) (([] : (List Int)), (0 : Int))).2)]), (5007, [], .arr 92 (.pr (.sl (.int .i64)) (.int .i64)) stack)]⟩ : St)) rfl (by kernel_rfl) rfl (by kernel_rfl) rfl (by kernel_rfl) Try.call54 (by kernel_rfl) (fun ret61v => by kernel_rfl) (fun e => by cases e) (fun hg => link54 (stack.getD ((((stack.length : Int) - (2 : Int))).toNat) (([] : (List Int)), (0 : Int))) ((decide ((0 : Int) ≤ (stack.getD ((((stack.length : Int) - (2 : Int))).toNat) (([] : (List Int)), (0 : Int))).2)) && (!ret58v)) _ h) (fun hg => noF hg) (fun ret61v h => ?_)
                have h : gcall (α := Bool) (decide ((0 : Int) ≤ (stack.getD (((((stack.length : Int) - (2 : Int)) + (1 : Int))).toNat) (([] : (List Int)), (0 : Int))).2)) (VC55 ops (post.getD (v23).toNat (0 : Int)) ((stack.getD (((((stack.length : Int) - (2 : Int)) + (1 : Int))).toNat) (([] : (List Int)), (0 : Int))).2)) false (fun (ret71v : Bool) => VC54 (stack.getD (((((stack.length : Int) - (2 : Int)) + (1 : Int))).toNat) (([] : (List Int)), (0 : Int))) ((decide ((0 : Int) ≤ (stack.getD (((((stack.length : Int) - (2 : Int)) + (1 : Int))).toNat) (([] : (List Int)), (0 : Int))).2)) && ret71v) (fun (ret73v : (List Int)) => ((0 ≤ ((stack.length : Int) - (2 : Int)) ∧ ((stack.length : Int) - (2 : Int)) ≤ (stack.length : Int)) ∧ VC56 [ret61v, [(post.getD (v23).toNat (0 : Int))], ret73v] (fun (ret82v : (List Int)) => (roomN ((stack.take ((((stack.length : Int) - (2 : Int))).toNat)).length + [(ret82v, (post.getD (v23).toNat (0 : Int)))].length) ∧ VC29_k2 v23 X1 ((stack.take ((((stack.length : Int) - (2 : Int))).toNat)) ++ [(ret82v, (post.getD (v23).toNat (0 : Int)))])))))) := h
                refine awd_runp (by kernel_rfl) [13] [0, 7, 9, 10, 12, 13, 21, 22, 23] [12, 5007] (ob := (True ∧ True)) (done' := [13, 12, 11, 10, 9, 8, 7, 6, 5, 4, 3, 2, 1, 0]) (st' := (⟨101, [(0, [], .v (.c (.p (.sl (.pr (.int .i64) .bool)) ops))), (7, [], .v (.c (.own 5007))), (9, [], .v (.c (.p (.int .i64) (post.getD (v23).toNat (0 : Int))))), (10, [], .v (.c (.p (.int .i64) ((stack.length : Int) - (2 : Int))))), (12, [], .v (.c (.ptr 12 0))), (13, [], .v (.c (.p (.sl (.int .i64)) ret61v))), (21, [], .v (.c (.p (.sl (.int .i64)) post))), (22, [], .v (.c (.p (.int .i64) (post.length : Int)))), (23, [], .v (.c (.p (.int .i64) v23)))], [(12, [], .box [.p (.sl (.int .i64)) ((stack.getD (((((stack.length : Int) - (2 : Int)) + (1 : Int))).toNat) (([] : (List Int)), (0 : Int))).1), .p (.int .i64) ((stack.getD (((((stack.length : Int) - (2 : Int)) + (1 : Int))).toNat) (([] : (List Int)), (0 : Int))).2)]), (5007, [], .arr 92 (.pr (.sl (.int .i64)) (.int .i64)) stack)]⟩ : St)) (by kernel_rfl) ⟨trivial, trivial⟩ ?_
                refine awd_done (by kernel_rfl) ?_
                refine thenQ_n ?_
                refine aw_seq ?_
                refine awd_begin [] (by kernel_rfl) ?_
                refine awd_runp (by kernel_rfl) [0, 1, 2, 3, 4, 5, 6, 7, 8] [0, 7, 9, 10, 13, 21, 22, 23, 62, 66, 67, 68, 70] [5007] (ob := (True ∧ True ∧ True ∧ True ∧ True ∧ ((decide ((0 : Int) ≤ (stack.getD (((((stack.length : Int) - (2 : Int)) + (1 : Int))).toNat) (([] : (List Int)), (0 : Int))).2)) = true → True) ∧ ((decide ((0 : Int) ≤ (stack.getD (((((stack.length : Int) - (2 : Int)) + (1 : Int))).toNat) (([] : (List Int)), (0 : Int))).2)) = true → True) ∧ ((decide ((0 : Int) ≤ (stack.getD (((((stack.length : Int) - (2 : Int)) + (1 : Int))).toNat) (([] : (List Int)), (0 : Int))).2)) = true → True) ∧ ((decide ((0 : Int) ≤ (stack.getD (((((stack.length : Int) - (2 : Int)) + (1 : Int))).toNat) (([] : (List Int)), (0 : Int))).2)) = true → True) ∧ True)) (done' := [8, 7, 6, 5, 4, 3, 2, 1, 0]) (st' := (⟨101, [(0, [], .v (.c (.p (.sl (.pr (.int .i64) .bool)) ops))), (7, [], .v (.c (.own 5007))), (9, [], .v (.c (.p (.int .i64) (post.getD (v23).toNat (0 : Int))))), (10, [], .v (.c (.p (.int .i64) ((stack.length : Int) - (2 : Int))))), (13, [], .v (.c (.p (.sl (.int .i64)) ret61v))), (21, [], .v (.c (.p (.sl (.int .i64)) post))), (22, [], .v (.c (.p (.int .i64) (post.length : Int)))), (23, [], .v (.c (.p (.int .i64) v23))), (62, [], .v (.agg [.p (.sl (.int .i64)) ((stack.getD (((((stack.length : Int) - (2 : Int)) + (1 : Int))).toNat) (([] : (List Int)), (0 : Int))).1), .p (.int .i64) ((stack.getD (((((stack.length : Int) - (2 : Int)) + (1 : Int))).toNat) (([] : (List Int)), (0 : Int))).2)])), (66, [], .v (.c (.p .bool (decide ((0 : Int) ≤ (stack.getD (((((stack.length : Int) - (2 : Int)) + (1 : Int))).toNat) (([] : (List Int)), (0 : Int))).2))))), (67, [(66, true)], .v (.c (.p (.sl (.pr (.int .i64) .bool)) ops))), (68, [(66, true)], .v (.c (.p (.int .i64) (post.getD (v23).toNat (0 : Int))))), (70, [(66, true)], .v (.c (.p (.int .i64) ((stack.getD (((((stack.length : Int) - (2 : Int)) + (1 : Int))).toNat) (([] : (List Int)), (0 : Int))).2))))], [(5007, [], .arr 92 (.pr (.sl (.int .i64)) (.int .i64)) stack)]⟩ : St)) (by kernel_rfl) ⟨trivial, trivial, trivial, trivial, trivial, (fun _ => trivial), (fun _ => trivial), (fun _ => trivial), (fun _ => trivial), trivial⟩ ?_
                refine awd_one (i := 9) (by kernel_rfl) ?_
                refine adop_callk (p := [(66, true)]) (l := [toV1 (.sl (.pr (.int .i64) .bool)) ops, toV1 (.int .i64) (post.getD (v23).toNat (0 : Int)), toV1 (.int .i64) ((stack.getD (((((stack.length : Int) - (2 : Int)) + (1 : Int))).toNat) (([] : (List Int)), (0 : Int))).2)]) (cl := []) false [.d (.sl (.pr (.int .i64) .bool)), .d (.int .i64), .d (.int .i64)] [0, 7, 9, 10, 13, 21, 22, 23, 62, 66, 71] [5007] (fun (ret71v : Bool) => VC54 (stack.getD (((((stack.length : Int) - (2 : Int)) + (1 : Int))).toNat) (([] : (List Int)), (0 : Int))) ((decide ((0 : Int) ≤ (stack.getD (((((stack.length : Int) - (2 : Int)) + (1 : Int))).toNat) (([] : (List Int)), (0 : Int))).2)) && ret71v) (fun (ret73v : (List Int)) => ((0 ≤ ((stack.length : Int) - (2 : Int)) ∧ ((stack.length : Int) - (2 : Int)) ≤ (stack.length : Int)) ∧ VC56 [ret61v, [(post.getD (v23).toNat (0 : Int))], ret73v] (fun (ret82v : (List Int)) => (roomN ((stack.take ((((stack.length : Int) - (2 : Int))).toNat)).length + [(ret82v, (post.getD (v23).toNat (0 : Int)))].length) ∧ VC29_k2 v23 X1 ((stack.take ((((stack.length : Int) - (2 : Int))).toNat)) ++ [(ret82v, (post.getD (v23).toNat (0 : Int)))])))))) (fun ret71v => [toV1 .bool ret71v]) (fun ret71v => (⟨101, [(0, [], .v (.c (.p (.sl (.pr (.int .i64) .bool)) ops))), (7, [], .v (.c (.own 5007))), (9, [], .v (.c (.p (.int .i64) (post.getD (v23).toNat (0 : Int))))), (10, [], .v (.c (.p (.int .i64) ((stack.length : Int) - (2 : Int))))), (13, [], .v (.c (.p (.sl (.int .i64)) ret61v))), (21, [], .v (.c (.p (.sl (.int .i64)) post))), (22, [], .v (.c (.p (.int .i64) (post.length : Int)))), (23, [], .v (.c (.p (.int .i64) v23))), (62, [], .v (.agg [.p (.sl (.int .i64)) ((stack.getD (((((stack.length : Int) - (2 : Int)) + (1 : Int))).toNat) (([] : (List Int)), (0 : Int))).1), .p (.int .i64) ((stack.getD (((((stack.length : Int) - (2 : Int)) + (1 : Int))).toNat) (([] : (List Int)), (0 : Int))).2)])), (66, [], .v (.c (.p .bool (decide ((0 : Int) ≤ (stack.getD (((((stack.length : Int) - (2 : Int)) + (1 : Int))).toNat) (([] : (List Int)), (0 : Int))).2))))), (71, [(66, true)], .v (.c (.p .bool ret71v)))], [(5007, [], .arr 92 (.pr (.sl (.int .i64)) (.int .i64)) stack)]⟩ : St)) rfl (by kernel_rfl) rfl (by kernel_rfl) rfl (by kernel_rfl) Try.call55 (by kernel_rfl) (fun ret71v => by kernel_rfl) (fun e => by cases e) (fun hg => link55 ops (post.getD (v23).toNat (0 : Int)) ((stack.getD (((((stack.length : Int) - (2 : Int)) + (1 : Int))).toNat) (([] : (List Int)), (0 : Int))).2) _ (by have := gcall_T h (show (decide ((0 : Int) ≤ (stack.getD (((((stack.length : Int) - (2 : Int)) + (1 : Int))).toNat) (([] : (List Int)), (0 : Int))).2)) = true from hg); exact this)) (fun hg => ⟨false, by have := gcall_F h (show (decide ((0 : Int) ≤ (stack.getD (((((stack.length : Int) - (2 : Int)) + (1 : Int))).toNat) (([] : (List Int)), (0 : Int))).2)) = false from hg); exact this⟩) (fun ret71v h => ?_)
                have h : VC54 (stack.getD (((((stack.length : Int) - (2 : Int)) + (1 : Int))).toNat) (([] : (List Int)), (0 : Int))) ((decide ((0 : Int) ≤ (stack.getD (((((stack.length : Int) - (2 : Int)) + (1 : Int))).toNat) (([] : (List Int)), (0 : Int))).2)) && ret71v) (fun (ret73v : (List Int)) => ((0 ≤ ((stack.length : Int) - (2 : Int)) ∧ ((stack.length : Int) - (2 : Int)) ≤ (stack.length : Int)) ∧ VC56 [ret61v, [(post.getD (v23).toNat (0 : Int))], ret73v] (fun (ret82v : (List Int)) => (roomN ((stack.take ((((stack.length : Int) - (2 : Int))).toNat)).length + [(ret82v, (post.getD (v23).toNat (0 : Int)))].length) ∧ VC29_k2 v23 X1 ((stack.take ((((stack.length : Int) - (2 : Int))).toNat)) ++ [(ret82v, (post.getD (v23).toNat (0 : Int)))]))))) := h
                refine awd_runp (by kernel_rfl) [10] [0, 7, 9, 10, 13, 21, 22, 23, 62, 72] [5007] (ob := (True ∧ True)) (done' := [10, 9, 8, 7, 6, 5, 4, 3, 2, 1, 0]) (st' := (⟨101, [(0, [], .v (.c (.p (.sl (.pr (.int .i64) .bool)) ops))), (7, [], .v (.c (.own 5007))), (9, [], .v (.c (.p (.int .i64) (post.getD (v23).toNat (0 : Int))))), (10, [], .v (.c (.p (.int .i64) ((stack.length : Int) - (2 : Int))))), (13, [], .v (.c (.p (.sl (.int .i64)) ret61v))), (21, [], .v (.c (.p (.sl (.int .i64)) post))), (22, [], .v (.c (.p (.int .i64) (post.length : Int)))), (23, [], .v (.c (.p (.int .i64) v23))), (62, [], .v (.agg [.p (.sl (.int .i64)) ((stack.getD (((((stack.length : Int) - (2 : Int)) + (1 : Int))).toNat) (([] : (List Int)), (0 : Int))).1), .p (.int .i64) ((stack.getD (((((stack.length : Int) - (2 : Int)) + (1 : Int))).toNat) (([] : (List Int)), (0 : Int))).2)])), (72, [], .v (.c (.p .bool ((decide ((0 : Int) ≤ (stack.getD (((((stack.length : Int) - (2 : Int)) + (1 : Int))).toNat) (([] : (List Int)), (0 : Int))).2)) && ret71v))))], [(5007, [], .arr 92 (.pr (.sl (.int .i64)) (.int .i64)) stack)]⟩ : St)) (by kernel_rfl) ⟨trivial, trivial⟩ ?_
                refine awd_one (i := 11) (by kernel_rfl) ?_
                refine adop_callk (p := []) (l := [toV1 (.pr (.sl (.int .i64)) (.int .i64)) (stack.getD (((((stack.length : Int) - (2 : Int)) + (1 : Int))).toNat) (([] : (List Int)), (0 : Int))), toV1 .bool ((decide ((0 : Int) ≤ (stack.getD (((((stack.length : Int) - (2 : Int)) + (1 : Int))).toNat) (([] : (List Int)), (0 : Int))).2)) && ret71v)]) (cl := []) false [.d (.pr (.sl (.int .i64)) (.int .i64)), .d .bool] [0, 7, 9, 10, 13, 21, 22, 23, 73] [5007] (fun (ret73v : (List Int)) => ((0 ≤ ((stack.length : Int) - (2 : Int)) ∧ ((stack.length : Int) - (2 : Int)) ≤ (stack.length : Int)) ∧ VC56 [ret61v, [(post.getD (v23).toNat (0 : Int))], ret73v] (fun (ret82v : (List Int)) => (roomN ((stack.take ((((stack.length : Int) - (2 : Int))).toNat)).length + [(ret82v, (post.getD (v23).toNat (0 : Int)))].length) ∧ VC29_k2 v23 X1 ((stack.take ((((stack.length : Int) - (2 : Int))).toNat)) ++ [(ret82v, (post.getD (v23).toNat (0 : Int)))]))))) (fun ret73v => [toV1 (.sl (.int .i64)) ret73v]) (fun ret73v => (⟨101, [(0, [], .v (.c (.p (.sl (.pr (.int .i64) .bool)) ops))), (7, [], .v (.c (.own 5007))), (9, [], .v (.c (.p (.int .i64) (post.getD (v23).toNat (0 : Int))))), (10, [], .v (.c (.p (.int .i64) ((stack.length : Int) - (2 : Int))))), (13, [], .v (.c (.p (.sl (.int .i64)) ret61v))), (21, [], .v (.c (.p (.sl (.int .i64)) post))), (22, [], .v (.c (.p (.int .i64) (post.length : Int)))), (23, [], .v (.c (.p (.int .i64) v23))), (73, [], .v (.c (.p (.sl (.int .i64)) ret73v)))], [(5007, [], .arr 92 (.pr (.sl (.int .i64)) (.int .i64)) stack)]⟩ : St)) rfl (by kernel_rfl) rfl (by kernel_rfl) rfl (by kernel_rfl) Try.call54 (by kernel_rfl) (fun ret73v => by kernel_rfl) (fun e => by cases e) (fun hg => link54 (stack.getD (((((stack.length : Int) - (2 : Int)) + (1 : Int))).toNat) (([] : (List Int)), (0 : Int))) ((decide ((0 : Int) ≤ (stack.getD (((((stack.length : Int) - (2 : Int)) + (1 : Int))).toNat) (([] : (List Int)), (0 : Int))).2)) && ret71v) _ h) (fun hg => noF hg) (fun ret73v h => ?_)
                have h : ((0 ≤ ((stack.length : Int) - (2 : Int)) ∧ ((stack.length : Int) - (2 : Int)) ≤ (stack.length : Int)) ∧ VC56 [ret61v, [(post.getD (v23).toNat (0 : Int))], ret73v] (fun (ret82v : (List Int)) => (roomN ((stack.take ((((stack.length : Int) - (2 : Int))).toNat)).length + [(ret82v, (post.getD (v23).toNat (0 : Int)))].length) ∧ VC29_k2 v23 X1 ((stack.take ((((stack.length : Int) - (2 : Int))).toNat)) ++ [(ret82v, (post.getD (v23).toNat (0 : Int)))])))) := h
                refine awd_runp (by kernel_rfl) [12] [0, 7, 9, 10, 13, 14, 21, 22, 23] [5007] (ob := (True ∧ True)) (done' := [12, 11, 10, 9, 8, 7, 6, 5, 4, 3, 2, 1, 0]) (st' := (⟨101, [(0, [], .v (.c (.p (.sl (.pr (.int .i64) .bool)) ops))), (7, [], .v (.c (.own 5007))), (9, [], .v (.c (.p (.int .i64) (post.getD (v23).toNat (0 : Int))))), (10, [], .v (.c (.p (.int .i64) ((stack.length : Int) - (2 : Int))))), (13, [], .v (.c (.p (.sl (.int .i64)) ret61v))), (14, [], .v (.c (.p (.sl (.int .i64)) ret73v))), (21, [], .v (.c (.p (.sl (.int .i64)) post))), (22, [], .v (.c (.p (.int .i64) (post.length : Int)))), (23, [], .v (.c (.p (.int .i64) v23)))], [(5007, [], .arr 92 (.pr (.sl (.int .i64)) (.int .i64)) stack)]⟩ : St)) (by kernel_rfl) ⟨trivial, trivial⟩ ?_
                refine awd_done (by kernel_rfl) ?_
                refine thenQ_n ?_
                refine awd_begin [5007] (by kernel_rfl) ?_
                obtain ⟨o1, h⟩ := h
                refine awd_runp (by kernel_rfl) [0, 1, 2, 3, 4, 6, 9] [0, 7, 21, 22, 23, 76, 77, 78, 80, 83] [5007] (ob := (True ∧ True ∧ (0 ≤ ((stack.length : Int) - (2 : Int)) ∧ ((stack.length : Int) - (2 : Int)) ≤ (stack.length : Int)) ∧ True ∧ True ∧ True ∧ True ∧ True)) (done' := [9, 6, 4, 3, 2, 1, 0]) (st' := (⟨101, [(0, [], .v (.c (.p (.sl (.pr (.int .i64) .bool)) ops))), (7, [], .v (.c (.own 5007))), (21, [], .v (.c (.p (.sl (.int .i64)) post))), (22, [], .v (.c (.p (.int .i64) (post.length : Int)))), (23, [], .v (.c (.p (.int .i64) v23))), (76, [], .v (.c (.vw 5007 0 ((((stack.length : Int) - (2 : Int))).toNat) 2))), (77, [], .v (.c (.p (.sl (.int .i64)) ret61v))), (78, [], .v (.c (.p (.int .i64) (post.getD (v23).toNat (0 : Int))))), (80, [], .v (.c (.p (.sl (.int .i64)) ret73v))), (83, [], .v (.c (.p (.int .i64) (post.getD (v23).toNat (0 : Int)))))], [(5007, [], .arr 92 (.pr (.sl (.int .i64)) (.int .i64)) stack)]⟩ : St)) (by kernel_rfl) ⟨trivial, trivial, o1, trivial, trivial, trivial, trivial, trivial⟩ ?_
                refine awd_one (i := 5) (by kernel_rfl) ?_
                refine adop_stepp [0, 7, 21, 22, 23, 76, 77, 79, 80, 83] [79, 5007] (ob := True) (st' := (⟨101, [(0, [], .v (.c (.p (.sl (.pr (.int .i64) .bool)) ops))), (7, [], .v (.c (.own 5007))), (21, [], .v (.c (.p (.sl (.int .i64)) post))), (22, [], .v (.c (.p (.int .i64) (post.length : Int)))), (23, [], .v (.c (.p (.int .i64) v23))), (76, [], .v (.c (.vw 5007 0 ((((stack.length : Int) - (2 : Int))).toNat) 2))), (77, [], .v (.c (.p (.sl (.int .i64)) ret61v))), (79, [], .v (.c (.own 79))), (80, [], .v (.c (.p (.sl (.int .i64)) ret73v))), (83, [], .v (.c (.p (.int .i64) (post.getD (v23).toNat (0 : Int)))))], [(79, [], .arr 3 (.int .i64) [(post.getD (v23).toNat (0 : Int))]), (5007, [], .arr 92 (.pr (.sl (.int .i64)) (.int .i64)) stack)]⟩ : St)) rfl (by kernel_rfl) trivial ?_
                refine awd_conv [.freeze 79] (st' := (⟨101, [(0, [], .v (.c (.p (.sl (.pr (.int .i64) .bool)) ops))), (7, [], .v (.c (.own 5007))), (21, [], .v (.c (.p (.sl (.int .i64)) post))), (22, [], .v (.c (.p (.int .i64) (post.length : Int)))), (23, [], .v (.c (.p (.int .i64) v23))), (76, [], .v (.c (.vw 5007 0 ((((stack.length : Int) - (2 : Int))).toNat) 2))), (77, [], .v (.c (.p (.sl (.int .i64)) ret61v))), (79, [], .v (.c (.p (.sl (.int .i64)) [(post.getD (v23).toNat (0 : Int))]))), (80, [], .v (.c (.p (.sl (.int .i64)) ret73v))), (83, [], .v (.c (.p (.int .i64) (post.getD (v23).toNat (0 : Int)))))], [(5007, [], .arr 92 (.pr (.sl (.int .i64)) (.int .i64)) stack)]⟩ : St)) (by kernel_rfl) rfl ?_
                refine awd_one (i := 7) (by kernel_rfl) ?_
                refine adop_stepp [0, 7, 21, 22, 23, 76, 81, 83] [81, 5007] (ob := True) (st' := (⟨101, [(0, [], .v (.c (.p (.sl (.pr (.int .i64) .bool)) ops))), (7, [], .v (.c (.own 5007))), (21, [], .v (.c (.p (.sl (.int .i64)) post))), (22, [], .v (.c (.p (.int .i64) (post.length : Int)))), (23, [], .v (.c (.p (.int .i64) v23))), (76, [], .v (.c (.vw 5007 0 ((((stack.length : Int) - (2 : Int))).toNat) 2))), (81, [], .v (.c (.own 81))), (83, [], .v (.c (.p (.int .i64) (post.getD (v23).toNat (0 : Int)))))], [(81, [], .arr 32 (.sl (.int .i64)) [ret61v, [(post.getD (v23).toNat (0 : Int))], ret73v]), (5007, [], .arr 92 (.pr (.sl (.int .i64)) (.int .i64)) stack)]⟩ : St)) rfl (by kernel_rfl) trivial ?_
                refine awd_one (i := 8) (by kernel_rfl) ?_
                refine adop_callOk (e := 3) (t := (.int .i64)) (l := [toV1 (.sl (.sl (.int .i64))) [ret61v, [(post.getD (v23).toNat (0 : Int))], ret73v]]) (cl := []) true [.d (.sl (.sl (.int .i64)))] [0, 7, 21, 22, 23, 76, 82, 83] [82, 5007] (fun (ret82v : (List Int)) => (roomN ((stack.take ((((stack.length : Int) - (2 : Int))).toNat)).length + [(ret82v, (post.getD (v23).toNat (0 : Int)))].length) ∧ VC29_k2 v23 X1 ((stack.take ((((stack.length : Int) - (2 : Int))).toNat)) ++ [(ret82v, (post.getD (v23).toNat (0 : Int)))]))) (fun ret82v => (⟨101, [(0, [], .v (.c (.p (.sl (.pr (.int .i64) .bool)) ops))), (7, [], .v (.c (.own 5007))), (21, [], .v (.c (.p (.sl (.int .i64)) post))), (22, [], .v (.c (.p (.int .i64) (post.length : Int)))), (23, [], .v (.c (.p (.int .i64) v23))), (76, [], .v (.c (.vw 5007 0 ((((stack.length : Int) - (2 : Int))).toNat) 2))), (82, [], .v (.c (.own 82))), (83, [], .v (.c (.p (.int .i64) (post.getD (v23).toNat (0 : Int)))))], [(82, [], .arr 3 (.int .i64) ret82v), (5007, [], .arr 92 (.pr (.sl (.int .i64)) (.int .i64)) stack)]⟩ : St)) rfl rfl rfl (by kernel_rfl) rfl (by kernel_rfl) Try.call56 (by kernel_rfl) (fun _ => rfl) (fun ret82v => by kernel_rfl) (link56 [ret61v, [(post.getD (v23).toNat (0 : Int))], ret73v] _ h) (fun ret82v h => ?_)
                have h : (roomN ((stack.take ((((stack.length : Int) - (2 : Int))).toNat)).length + [(ret82v, (post.getD (v23).toNat (0 : Int)))].length) ∧ VC29_k2 v23 X1 ((stack.take ((((stack.length : Int) - (2 : Int))).toNat)) ++ [(ret82v, (post.getD (v23).toNat (0 : Int)))])) := h
                refine awd_runp (by kernel_rfl) [10] [0, 7, 21, 22, 23, 76, 84] [82, 5007] (ob := (True ∧ True)) (done' := [10, 8, 7, 5, 9, 6, 4, 3, 2, 1, 0]) (st' := (⟨101, [(0, [], .v (.c (.p (.sl (.pr (.int .i64) .bool)) ops))), (7, [], .v (.c (.own 5007))), (21, [], .v (.c (.p (.sl (.int .i64)) post))), (22, [], .v (.c (.p (.int .i64) (post.length : Int)))), (23, [], .v (.c (.p (.int .i64) v23))), (76, [], .v (.c (.vw 5007 0 ((((stack.length : Int) - (2 : Int))).toNat) 2))), (84, [], .v (.agg [.own 82, .p (.int .i64) (post.getD (v23).toNat (0 : Int))]))], [(82, [], .arr 3 (.int .i64) ret82v), (5007, [], .arr 92 (.pr (.sl (.int .i64)) (.int .i64)) stack)]⟩ : St)) (by kernel_rfl) ⟨trivial, trivial⟩ ?_
                refine awd_conv [.freeze 82] (st' := (⟨101, [(0, [], .v (.c (.p (.sl (.pr (.int .i64) .bool)) ops))), (7, [], .v (.c (.own 5007))), (21, [], .v (.c (.p (.sl (.int .i64)) post))), (22, [], .v (.c (.p (.int .i64) (post.length : Int)))), (23, [], .v (.c (.p (.int .i64) v23))), (76, [], .v (.c (.vw 5007 0 ((((stack.length : Int) - (2 : Int))).toNat) 2))), (84, [], .v (.agg [.p (.sl (.int .i64)) ret82v, .p (.int .i64) (post.getD (v23).toNat (0 : Int))]))], [(5007, [], .arr 92 (.pr (.sl (.int .i64)) (.int .i64)) stack)]⟩ : St)) (by kernel_rfl) rfl ?_
                refine awd_one (i := 11) (by kernel_rfl) ?_
                refine adop_stepp [0, 7, 21, 22, 23, 76, 85] [85, 5007] (ob := True) (st' := (⟨101, [(0, [], .v (.c (.p (.sl (.pr (.int .i64) .bool)) ops))), (7, [], .v (.c (.own 5007))), (21, [], .v (.c (.p (.sl (.int .i64)) post))), (22, [], .v (.c (.p (.int .i64) (post.length : Int)))), (23, [], .v (.c (.p (.int .i64) v23))), (76, [], .v (.c (.vw 5007 0 ((((stack.length : Int) - (2 : Int))).toNat) 2))), (85, [], .v (.c (.own 85)))], [(85, [], .arr 92 (.pr (.sl (.int .i64)) (.int .i64)) [(ret82v, (post.getD (v23).toNat (0 : Int)))]), (5007, [], .arr 92 (.pr (.sl (.int .i64)) (.int .i64)) stack)]⟩ : St)) rfl (by kernel_rfl) trivial ?_
                refine awd_one (i := 12) (by kernel_rfl) ?_
                obtain ⟨o1, h⟩ := h
                refine adop_stepp [0, 21, 22, 23, 86] [86] (ob := roomN ((stack.take ((((stack.length : Int) - (2 : Int))).toNat)).length + [(ret82v, (post.getD (v23).toNat (0 : Int)))].length)) (st' := (⟨101, [(0, [], .v (.c (.p (.sl (.pr (.int .i64) .bool)) ops))), (21, [], .v (.c (.p (.sl (.int .i64)) post))), (22, [], .v (.c (.p (.int .i64) (post.length : Int)))), (23, [], .v (.c (.p (.int .i64) v23))), (86, [], .v (.c (.own 86)))], [(86, [], .arr 92 (.pr (.sl (.int .i64)) (.int .i64)) ((stack.take ((((stack.length : Int) - (2 : Int))).toNat)) ++ [(ret82v, (post.getD (v23).toNat (0 : Int)))]))]⟩ : St)) rfl (by kernel_rfl) o1 ?_
                refine awd_runp (by kernel_rfl) [13] [0, 7, 21, 22, 23] [86] (ob := (True ∧ True)) (done' := [13, 12, 11, 10, 8, 7, 5, 9, 6, 4, 3, 2, 1, 0]) (st' := (⟨101, [(0, [], .v (.c (.p (.sl (.pr (.int .i64) .bool)) ops))), (7, [], .v (.c (.own 86))), (21, [], .v (.c (.p (.sl (.int .i64)) post))), (22, [], .v (.c (.p (.int .i64) (post.length : Int)))), (23, [], .v (.c (.p (.int .i64) v23)))], [(86, [], .arr 92 (.pr (.sl (.int .i64)) (.int .i64)) ((stack.take ((((stack.length : Int) - (2 : Int))).toNat)) ++ [(ret82v, (post.getD (v23).toNat (0 : Int)))]))]⟩ : St)) (by kernel_rfl) ⟨trivial, trivial⟩ ?_
                refine awd_end [.ren 86 20086, .ren 20086 34] (st' := (⟨101, [(0, [], .v (.c (.p (.sl (.pr (.int .i64) .bool)) ops))), (7, [], .v (.c (.own 34))), (21, [], .v (.c (.p (.sl (.int .i64)) post))), (22, [], .v (.c (.p (.int .i64) (post.length : Int)))), (23, [], .v (.c (.p (.int .i64) v23)))], [(34, [], .arr 92 (.pr (.sl (.int .i64)) (.int .i64)) ((stack.take ((((stack.length : Int) - (2 : Int))).toNat)) ++ [(ret82v, (post.getD (v23).toNat (0 : Int)))]))]⟩ : St)) (by kernel_rfl) (by kernel_rfl) ?_
                refine blockQ_n ?_
                exact rest2 ((stack.take ((((stack.length : Int) - (2 : Int))).toNat)) ++ [(ret82v, (post.getD (v23).toNat (0 : Int)))]) h
              · obtain ⟨o1, o2, o3, h⟩ := h
                refine awd_runp (by kernel_rfl) [0, 1, 2, 3, 4, 5, 6, 7, 8] [0, 7, 9, 10, 21, 22, 23, 43, 48] [5007] (ob := (True ∧ True ∧ inIdx ((stack.length : Int) - (2 : Int)) stack.length ∧ True ∧ True ∧ True ∧ InR (((stack.length : Int) - (2 : Int)) + (1 : Int)) ∧ inIdx (((stack.length : Int) - (2 : Int)) + (1 : Int)) stack.length ∧ True ∧ True)) (done' := [8, 7, 6, 5, 4, 3, 2, 1, 0]) (st' := (⟨101, [(0, [], .v (.c (.p (.sl (.pr (.int .i64) .bool)) ops))), (7, [], .v (.c (.own 5007))), (9, [], .v (.c (.p (.int .i64) (post.getD (v23).toNat (0 : Int))))), (10, [], .v (.c (.p (.int .i64) ((stack.length : Int) - (2 : Int))))), (21, [], .v (.c (.p (.sl (.int .i64)) post))), (22, [], .v (.c (.p (.int .i64) (post.length : Int)))), (23, [], .v (.c (.p (.int .i64) v23))), (43, [], .v (.agg [.p (.sl (.int .i64)) ((stack.getD ((((stack.length : Int) - (2 : Int))).toNat) (([] : (List Int)), (0 : Int))).1), .p (.int .i64) ((stack.getD ((((stack.length : Int) - (2 : Int))).toNat) (([] : (List Int)), (0 : Int))).2)])), (48, [], .v (.agg [.p (.sl (.int .i64)) ((stack.getD (((((stack.length : Int) - (2 : Int)) + (1 : Int))).toNat) (([] : (List Int)), (0 : Int))).1), .p (.int .i64) ((stack.getD (((((stack.length : Int) - (2 : Int)) + (1 : Int))).toNat) (([] : (List Int)), (0 : Int))).2)]))], [(5007, [], .arr 92 (.pr (.sl (.int .i64)) (.int .i64)) stack)]⟩ : St)) (by kernel_rfl) ⟨trivial, trivial, o1, trivial, trivial, trivial, o2, o3, trivial, trivial⟩ ?_
                refine awd_two (i := 9) (j := 10) (by kernel_rfl) ?_ ?_
                · have h := h
                  refine adop_stepp [0, 7, 9, 10, 11, 21, 22, 23, 43, 48] [11, 5007] (ob := True) (st' := (⟨101, [(0, [], .v (.c (.p (.sl (.pr (.int .i64) .bool)) ops))), (7, [], .v (.c (.own 5007))), (9, [], .v (.c (.p (.int .i64) (post.getD (v23).toNat (0 : Int))))), (10, [], .v (.c (.p (.int .i64) ((stack.length : Int) - (2 : Int))))), (11, [], .v (.c (.ptr 11 0))), (21, [], .v (.c (.p (.sl (.int .i64)) post))), (22, [], .v (.c (.p (.int .i64) (post.length : Int)))), (23, [], .v (.c (.p (.int .i64) v23))), (43, [], .v (.agg [.p (.sl (.int .i64)) ((stack.getD ((((stack.length : Int) - (2 : Int))).toNat) (([] : (List Int)), (0 : Int))).1), .p (.int .i64) ((stack.getD ((((stack.length : Int) - (2 : Int))).toNat) (([] : (List Int)), (0 : Int))).2)])), (48, [], .v (.agg [.p (.sl (.int .i64)) ((stack.getD (((((stack.length : Int) - (2 : Int)) + (1 : Int))).toNat) (([] : (List Int)), (0 : Int))).1), .p (.int .i64) ((stack.getD (((((stack.length : Int) - (2 : Int)) + (1 : Int))).toNat) (([] : (List Int)), (0 : Int))).2)]))], [(11, [], .box [.nils, .p (.int .i64) (0 : Int)]), (5007, [], .arr 92 (.pr (.sl (.int .i64)) (.int .i64)) stack)]⟩ : St)) rfl (by kernel_rfl) trivial ?_
                  refine awd_one (i := 10) (by kernel_rfl) ?_
                  refine adop_stepp [0, 7, 9, 10, 11, 12, 21, 22, 23, 43, 48] [11, 12, 5007] (ob := True) (st' := (⟨101, [(0, [], .v (.c (.p (.sl (.pr (.int .i64) .bool)) ops))), (7, [], .v (.c (.own 5007))), (9, [], .v (.c (.p (.int .i64) (post.getD (v23).toNat (0 : Int))))), (10, [], .v (.c (.p (.int .i64) ((stack.length : Int) - (2 : Int))))), (11, [], .v (.c (.ptr 11 0))), (12, [], .v (.c (.ptr 12 0))), (21, [], .v (.c (.p (.sl (.int .i64)) post))), (22, [], .v (.c (.p (.int .i64) (post.length : Int)))), (23, [], .v (.c (.p (.int .i64) v23))), (43, [], .v (.agg [.p (.sl (.int .i64)) ((stack.getD ((((stack.length : Int) - (2 : Int))).toNat) (([] : (List Int)), (0 : Int))).1), .p (.int .i64) ((stack.getD ((((stack.length : Int) - (2 : Int))).toNat) (([] : (List Int)), (0 : Int))).2)])), (48, [], .v (.agg [.p (.sl (.int .i64)) ((stack.getD (((((stack.length : Int) - (2 : Int)) + (1 : Int))).toNat) (([] : (List Int)), (0 : Int))).1), .p (.int .i64) ((stack.getD (((((stack.length : Int) - (2 : Int)) + (1 : Int))).toNat) (([] : (List Int)), (0 : Int))).2)]))], [(11, [], .box [.nils, .p (.int .i64) (0 : Int)]), (12, [], .box [.nils, .p (.int .i64) (0 : Int)]), (5007, [], .arr 92 (.pr (.sl (.int .i64)) (.int .i64)) stack)]⟩ : St)) rfl (by kernel_rfl) trivial ?_
                  exact m1 h
                · have h := h
                  refine adop_stepp [0, 7, 9, 10, 12, 21, 22, 23, 43, 48] [12, 5007] (ob := True) (st' := (⟨101, [(0, [], .v (.c (.p (.sl (.pr (.int .i64) .bool)) ops))), (7, [], .v (.c (.own 5007))), (9, [], .v (.c (.p (.int .i64) (post.getD (v23).toNat (0 : Int))))), (10, [], .v (.c (.p (.int .i64) ((stack.length : Int) - (2 : Int))))), (12, [], .v (.c (.ptr 12 0))), (21, [], .v (.c (.p (.sl (.int .i64)) post))), (22, [], .v (.c (.p (.int .i64) (post.length : Int)))), (23, [], .v (.c (.p (.int .i64) v23))), (43, [], .v (.agg [.p (.sl (.int .i64)) ((stack.getD ((((stack.length : Int) - (2 : Int))).toNat) (([] : (List Int)), (0 : Int))).1), .p (.int .i64) ((stack.getD ((((stack.length : Int) - (2 : Int))).toNat) (([] : (List Int)), (0 : Int))).2)])), (48, [], .v (.agg [.p (.sl (.int .i64)) ((stack.getD (((((stack.length : Int) - (2 : Int)) + (1 : Int))).toNat) (([] : (List Int)), (0 : Int))).1), .p (.int .i64) ((stack.getD (((((stack.length : Int) - (2 : Int)) + (1 : Int))).toNat) (([] : (List Int)), (0 : Int))).2)]))], [(12, [], .box [.nils, .p (.int .i64) (0 : Int)]), (5007, [], .arr 92 (.pr (.sl (.int .i64)) (.int .i64)) stack)]⟩ : St)) rfl (by kernel_rfl) trivial ?_
                  refine awd_one (i := 9) (by kernel_rfl) ?_
                  refine adop_stepp [0, 7, 9, 10, 11, 12, 21, 22, 23, 43, 48] [11, 12, 5007] (ob := True) (st' := (⟨101, [(0, [], .v (.c (.p (.sl (.pr (.int .i64) .bool)) ops))), (7, [], .v (.c (.own 5007))), (9, [], .v (.c (.p (.int .i64) (post.getD (v23).toNat (0 : Int))))), (10, [], .v (.c (.p (.int .i64) ((stack.length : Int) - (2 : Int))))), (11, [], .v (.c (.ptr 11 0))), (12, [], .v (.c (.ptr 12 0))), (21, [], .v (.c (.p (.sl (.int .i64)) post))), (22, [], .v (.c (.p (.int .i64) (post.length : Int)))), (23, [], .v (.c (.p (.int .i64) v23))), (43, [], .v (.agg [.p (.sl (.int .i64)) ((stack.getD ((((stack.length : Int) - (2 : Int))).toNat) (([] : (List Int)), (0 : Int))).1), .p (.int .i64) ((stack.getD ((((stack.length : Int) - (2 : Int))).toNat) (([] : (List Int)), (0 : Int))).2)])), (48, [], .v (.agg [.p (.sl (.int .i64)) ((stack.getD (((((stack.length : Int) - (2 : Int)) + (1 : Int))).toNat) (([] : (List Int)), (0 : Int))).1), .p (.int .i64) ((stack.getD (((((stack.length : Int) - (2 : Int)) + (1 : Int))).toNat) (([] : (List Int)), (0 : Int))).2)]))], [(11, [], .box [.nils, .p (.int .i64) (0 : Int)]), (12, [], .box [.nils, .p (.int .i64) (0 : Int)]), (5007, [], .arr 92 (.pr (.sl (.int .i64)) (.int .i64)) stack)]⟩ : St)) rfl (by kernel_rfl) trivial ?_
                  refine awd_perm [10, 9, 8, 7, 6, 5, 4, 3, 2, 1, 0] (by kernel_rfl) (by kernel_rfl) ?_
                  exact m1 h
      · have h := h.2 hb
        refine aw_conv [.prune [7] [5007]] (st' := (⟨101, [(7, [], .v (.c (.own 5007)))], [(5007, [], .arr 92 (.pr (.sl (.int .i64)) (.int .i64)) stack)]⟩ : St)) (by kernel_rfl) ?_
        refine aw_exit ?_
        refine thenQ_x ?_
        refine thenQ_x ?_
        refine blockQ_hit ?_
        exact rest1 stack h

-- coppicer/coppicerref.OpsCheck
def VC57_k2 (K : Int → Prop) : Prop :=
  K (0 : Int)

def VC57_l1 (ops : (List (Int × Bool))) (l : (List Int)) (marks : Bool) (K : Int → Prop) (v52 : Int) (X1 : Int → Prop) : Prop :=
  (((decide (v52 < (l.length : Int))) = true → (inIdx v52 l.length ∧ (((((decide ((100 : Int) ≤ (l.getD (v52).toNat (0 : Int)))) || ((decide ((0 : Int) ≤ (l.getD (v52).toNat (0 : Int)))) && (decide ((l.getD (v52).toNat (0 : Int)) < (ops.length : Int))))) || (marks && ((decide ((l.getD (v52).toNat (0 : Int)) = (-1 : Int))) || (decide ((l.getD (v52).toNat (0 : Int)) = (-2 : Int)))))) = true → (InR (v52 + (1 : Int)) ∧ X1 (v52 + (1 : Int)))) ∧ ((((decide ((100 : Int) ≤ (l.getD (v52).toNat (0 : Int)))) || ((decide ((0 : Int) ≤ (l.getD (v52).toNat (0 : Int)))) && (decide ((l.getD (v52).toNat (0 : Int)) < (ops.length : Int))))) || (marks && ((decide ((l.getD (v52).toNat (0 : Int)) = (-1 : Int))) || (decide ((l.getD (v52).toNat (0 : Int)) = (-2 : Int)))))) = false → K (2 : Int))))) ∧ ((decide (v52 < (l.length : Int))) = false → VC57_k2 K))

def VC57_k1 (ops : (List (Int × Bool))) (l : (List Int)) (marks : Bool) (K : Int → Prop) : Prop :=
  Loop (σ := Int) (fun s X => VC57_l1 ops l marks K s X) (0 : Int)

def VC57_k3 (v23 : Int) (X2 : Int → Prop) : Prop :=
  (InR (v23 + (1 : Int)) ∧ X2 (v23 + (1 : Int)))

def VC57_l3 (ops : (List (Int × Bool))) (K : Int → Prop) (v23 : Int) (X2 : Int → Prop) (v32 : Int) (X3 : Int → Prop) : Prop :=
  (((decide (v32 < ((ops.take (v23).toNat).length : Int))) = true → (inIdx v32 (ops.take (v23).toNat).length ∧ ((((decide ((ops.getD (v23).toNat ((0 : Int), false)).1 = ((ops.take (v23).toNat).getD (v32).toNat ((0 : Int), false)).1)) && ((ops.getD (v23).toNat ((0 : Int), false)).2 != ((ops.take (v23).toNat).getD (v32).toNat ((0 : Int), false)).2)) = true → K (3 : Int)) ∧ (((decide ((ops.getD (v23).toNat ((0 : Int), false)).1 = ((ops.take (v23).toNat).getD (v32).toNat ((0 : Int), false)).1)) && ((ops.getD (v23).toNat ((0 : Int), false)).2 != ((ops.take (v23).toNat).getD (v32).toNat ((0 : Int), false)).2)) = false → (InR (v32 + (1 : Int)) ∧ X3 (v32 + (1 : Int))))))) ∧ ((decide (v32 < ((ops.take (v23).toNat).length : Int))) = false → VC57_k3 v23 X2))

def VC57_l2 (ops : (List (Int × Bool))) (l : (List Int)) (marks : Bool) (K : Int → Prop) (v23 : Int) (X2 : Int → Prop) : Prop :=
  (((decide (v23 < (ops.length : Int))) = true → (inIdx v23 ops.length ∧ ((0 ≤ v23 ∧ v23 ≤ (ops.length : Int)) ∧ Loop (σ := Int) (fun s X => VC57_l3 ops K v23 X2 s X) (0 : Int)))) ∧ ((decide (v23 < (ops.length : Int))) = false → VC57_k1 ops l marks K))

def VC57 (ops : (List (Int × Bool))) (l : (List Int)) (marks : Bool) (K : Int → Prop) : Prop :=
  ((((decide ((6 : Int) < (ops.length : Int))) || (decide ((60 : Int) < (l.length : Int)))) = true → K (1 : Int)) ∧ (((decide ((6 : Int) < (ops.length : Int))) || (decide ((60 : Int) < (l.length : Int)))) = false → Loop (σ := Int) (fun s X => VC57_l2 ops l marks K s X) (0 : Int)))

set_option maxHeartbeats 4000000 in
theorem link57 (ops : (List (Int × Bool))) (l : (List Int)) (marks : Bool) (K : Int → Prop) (h : VC57 ops l marks K) : ACalls Try.prog 57 [toV1 (.sl (.pr (.int .i64) .bool)) ops, toV1 (.sl (.int .i64)) l, toV1 .bool marks] (fun res => ∃ y, res = (fun y => [toV1 (.int .i64) y]) y ∧ K y) := by
  refine acalls_of_aw [(.int .i64)] [.t 6] Try.func57 rfl rfl rfl ?_
  unfold VC57 at h
  refine aw_seq ?_
  refine aw_region ?_
  refine awl_runp 1 [0, 1, 2] [] (ob := (True ∧ True)) (st' := (⟨80, [(0, [], .v (.c (.p (.sl (.pr (.int .i64) .bool)) ops))), (1, [], .v (.c (.p (.sl (.int .i64)) l))), (2, [], .v (.c (.p .bool marks)))], []⟩ : St)) (by kernel_rfl) ⟨trivial, trivial⟩ ?_
  refine awl_nil ?_
  refine thenQ_n ?_
  refine aw_seq ?_
  refine aw_seq ?_
  refine aw_region ?_
  refine awl_runp 8 [0, 1, 2, 20] [] (ob := (True ∧ True ∧ True ∧ True ∧ ((decide ((6 : Int) < (ops.length : Int))) = false → True) ∧ ((decide ((6 : Int) < (ops.length : Int))) = false → True) ∧ ((decide ((6 : Int) < (ops.length : Int))) = false → True) ∧ True ∧ True)) (st' := (⟨80, [(0, [], .v (.c (.p (.sl (.pr (.int .i64) .bool)) ops))), (1, [], .v (.c (.p (.sl (.int .i64)) l))), (2, [], .v (.c (.p .bool marks))), (20, [], .v (.c (.p .bool ((decide ((6 : Int) < (ops.length : Int))) || (decide ((60 : Int) < (l.length : Int)))))))], []⟩ : St)) (by kernel_rfl) ⟨trivial, trivial, trivial, trivial, (fun _ => trivial), (fun _ => trivial), (fun _ => trivial), trivial, trivial⟩ ?_
  refine awl_nil ?_
  refine thenQ_n ?_
  refine aw_cond (b := ((decide ((6 : Int) < (ops.length : Int))) || (decide ((60 : Int) < (l.length : Int))))) (by kernel_rfl) (fun hb => ?_) (fun hb => ?_)
  · have h := h.1 hb
    refine aw_seq ?_
    refine aw_region ?_
    refine awl_runp 1 [6] [] (ob := (True ∧ True)) (st' := (⟨80, [(6, [], .v (.c (.p (.int .i64) (1 : Int))))], []⟩ : St)) (by kernel_rfl) ⟨trivial, trivial⟩ ?_
    refine awl_nil ?_
    refine thenQ_n ?_
    refine aw_ret ?_
    refine thenQ_r ?_
    exact retQ_r (σ := Int) (R := (fun y => [toV1 (.int .i64) y])) (ob := (True ∧ True)) (1 : Int) (by kernel_rfl) ⟨trivial, trivial⟩ h
  · have h := h.2 hb
    refine aw_skip ?_
    refine thenQ_n ?_
    refine aw_seq ?_
    refine aw_seq ?_
    refine aw_region ?_
    refine awl_runp 3 [0, 1, 2, 21, 22, 23] [] (ob := (True ∧ True ∧ True ∧ True)) (st' := (⟨80, [(0, [], .v (.c (.p (.sl (.pr (.int .i64) .bool)) ops))), (1, [], .v (.c (.p (.sl (.int .i64)) l))), (2, [], .v (.c (.p .bool marks))), (21, [], .v (.c (.p (.sl (.pr (.int .i64) .bool)) ops))), (22, [], .v (.c (.p (.int .i64) (ops.length : Int)))), (23, [], .v (.c (.p (.int .i64) (0 : Int))))], []⟩ : St)) (by kernel_rfl) ⟨trivial, trivial, trivial, trivial⟩ ?_
    refine awl_nil ?_
    refine thenQ_n ?_
    refine withJoin (σ := Unit) (fun s => (⟨80, [(0, [], .v (.c (.p (.sl (.pr (.int .i64) .bool)) ops))), (1, [], .v (.c (.p (.sl (.int .i64)) l))), (2, [], .v (.c (.p .bool marks)))], []⟩ : St)) (fun s => VC57_k1 ops l marks K) (fun s h => ?_) (fun rest2 => ?_)
    · have h : VC57_k1 ops l marks K := h
      unfold VC57_k1 at h
      refine thenQ_n ?_
      refine aw_seq ?_
      refine aw_seq ?_
      refine aw_region ?_
      refine awl_runp 3 [0, 2, 50, 51, 52] [] (ob := (True ∧ True ∧ True ∧ True)) (st' := (⟨80, [(0, [], .v (.c (.p (.sl (.pr (.int .i64) .bool)) ops))), (2, [], .v (.c (.p .bool marks))), (50, [], .v (.c (.p (.sl (.int .i64)) l))), (51, [], .v (.c (.p (.int .i64) (l.length : Int)))), (52, [], .v (.c (.p (.int .i64) (0 : Int))))], []⟩ : St)) (by kernel_rfl) ⟨trivial, trivial, trivial, trivial⟩ ?_
      refine awl_nil ?_
      refine thenQ_n ?_
      refine withJoin (σ := Unit) (fun s => (⟨80, [], []⟩ : St)) (fun s => VC57_k2 K) (fun s h => ?_) (fun rest1 => ?_)
      · have h : VC57_k2 K := h
        unfold VC57_k2 at h
        refine thenQ_n ?_
        refine aw_seq ?_
        refine aw_region ?_
        refine awl_runp 1 [6] [] (ob := (True ∧ True)) (st' := (⟨80, [(6, [], .v (.c (.p (.int .i64) (0 : Int))))], []⟩ : St)) (by kernel_rfl) ⟨trivial, trivial⟩ ?_
        refine awl_nil ?_
        refine thenQ_n ?_
        refine aw_ret ?_
        exact retQ_r (σ := Int) (R := (fun y => [toV1 (.int .i64) y])) (ob := (True ∧ True)) (0 : Int) (by kernel_rfl) ⟨trivial, trivial⟩ h
      · refine aw_block ?_
        refine aw_loop (σ := Int) (fun s => (⟨80, [(0, [], .v (.c (.p (.sl (.pr (.int .i64) .bool)) ops))), (2, [], .v (.c (.p .bool marks))), (50, [], .v (.c (.p (.sl (.int .i64)) l))), (51, [], .v (.c (.p (.int .i64) (l.length : Int)))), (52, [], .v (.c (.p (.int .i64) s)))], []⟩ : St)) (fun s X => VC57_l1 ops l marks K s X) (s0 := (0 : Int)) (fun v52 X1 h => ?_) h
        have h : VC57_l1 ops l marks K v52 X1 := h
        unfold VC57_l1 at h
        refine aw_seq ?_
        refine aw_region ?_
        refine awl_runp 1 [0, 2, 50, 51, 52, 53] [] (ob := (True ∧ True)) (st' := (⟨80, [(0, [], .v (.c (.p (.sl (.pr (.int .i64) .bool)) ops))), (2, [], .v (.c (.p .bool marks))), (50, [], .v (.c (.p (.sl (.int .i64)) l))), (51, [], .v (.c (.p (.int .i64) (l.length : Int)))), (52, [], .v (.c (.p (.int .i64) v52))), (53, [], .v (.c (.p .bool (decide (v52 < (l.length : Int))))))], []⟩ : St)) (by kernel_rfl) ⟨trivial, trivial⟩ ?_
        refine awl_nil ?_
        refine thenQ_n ?_
        refine aw_seq ?_
        refine aw_cond (b := (decide (v52 < (l.length : Int)))) (by kernel_rfl) (fun hb => ?_) (fun hb => ?_)
        · have h := h.1 hb
          refine aw_skip ?_
          refine thenQ_n ?_
          refine aw_seq ?_
          refine aw_block ?_
          refine aw_seq ?_
          refine aw_region ?_
          obtain ⟨o1, h⟩ := h
          refine awl_runp 3 [0, 2, 12, 50, 51, 52] [] (ob := (inIdx v52 l.length ∧ True ∧ True ∧ True)) (st' := (⟨80, [(0, [], .v (.c (.p (.sl (.pr (.int .i64) .bool)) ops))), (2, [], .v (.c (.p .bool marks))), (12, [], .v (.c (.p (.int .i64) (l.getD (v52).toNat (0 : Int))))), (50, [], .v (.c (.p (.sl (.int .i64)) l))), (51, [], .v (.c (.p (.int .i64) (l.length : Int)))), (52, [], .v (.c (.p (.int .i64) v52)))], []⟩ : St)) (by kernel_rfl) ⟨o1, trivial, trivial, trivial⟩ ?_
          refine awl_nil ?_
          refine thenQ_n ?_
          refine aw_seq ?_
          refine aw_seq ?_
          refine aw_region ?_
          refine awl_runp 23 [0, 2, 50, 51, 52, 78] [] (ob := (True ∧ True ∧ True ∧ ((decide ((100 : Int) ≤ (l.getD (v52).toNat (0 : Int)))) = false → True) ∧ ((decide ((100 : Int) ≤ (l.getD (v52).toNat (0 : Int)))) = false → True) ∧ ((decide ((100 : Int) ≤ (l.getD (v52).toNat (0 : Int)))) = false → True) ∧ ((decide ((100 : Int) ≤ (l.getD (v52).toNat (0 : Int)))) = false → ((decide ((0 : Int) ≤ (l.getD (v52).toNat (0 : Int)))) = true → True)) ∧ ((decide ((100 : Int) ≤ (l.getD (v52).toNat (0 : Int)))) = false → ((decide ((0 : Int) ≤ (l.getD (v52).toNat (0 : Int)))) = true → True)) ∧ ((decide ((100 : Int) ≤ (l.getD (v52).toNat (0 : Int)))) = false → ((decide ((0 : Int) ≤ (l.getD (v52).toNat (0 : Int)))) = true → True)) ∧ ((decide ((100 : Int) ≤ (l.getD (v52).toNat (0 : Int)))) = false → ((decide ((0 : Int) ≤ (l.getD (v52).toNat (0 : Int)))) = true → True)) ∧ ((decide ((100 : Int) ≤ (l.getD (v52).toNat (0 : Int)))) = false → True) ∧ True ∧ True ∧ (((decide ((100 : Int) ≤ (l.getD (v52).toNat (0 : Int)))) || ((decide ((0 : Int) ≤ (l.getD (v52).toNat (0 : Int)))) && (decide ((l.getD (v52).toNat (0 : Int)) < (ops.length : Int))))) = false → True) ∧ (((decide ((100 : Int) ≤ (l.getD (v52).toNat (0 : Int)))) || ((decide ((0 : Int) ≤ (l.getD (v52).toNat (0 : Int)))) && (decide ((l.getD (v52).toNat (0 : Int)) < (ops.length : Int))))) = false → True) ∧ (((decide ((100 : Int) ≤ (l.getD (v52).toNat (0 : Int)))) || ((decide ((0 : Int) ≤ (l.getD (v52).toNat (0 : Int)))) && (decide ((l.getD (v52).toNat (0 : Int)) < (ops.length : Int))))) = false → (marks = true → True)) ∧ (((decide ((100 : Int) ≤ (l.getD (v52).toNat (0 : Int)))) || ((decide ((0 : Int) ≤ (l.getD (v52).toNat (0 : Int)))) && (decide ((l.getD (v52).toNat (0 : Int)) < (ops.length : Int))))) = false → (marks = true → True)) ∧ (((decide ((100 : Int) ≤ (l.getD (v52).toNat (0 : Int)))) || ((decide ((0 : Int) ≤ (l.getD (v52).toNat (0 : Int)))) && (decide ((l.getD (v52).toNat (0 : Int)) < (ops.length : Int))))) = false → (marks = true → True)) ∧ (((decide ((100 : Int) ≤ (l.getD (v52).toNat (0 : Int)))) || ((decide ((0 : Int) ≤ (l.getD (v52).toNat (0 : Int)))) && (decide ((l.getD (v52).toNat (0 : Int)) < (ops.length : Int))))) = false → (marks = true → ((decide ((l.getD (v52).toNat (0 : Int)) = (-1 : Int))) = false → True))) ∧ (((decide ((100 : Int) ≤ (l.getD (v52).toNat (0 : Int)))) || ((decide ((0 : Int) ≤ (l.getD (v52).toNat (0 : Int)))) && (decide ((l.getD (v52).toNat (0 : Int)) < (ops.length : Int))))) = false → (marks = true → ((decide ((l.getD (v52).toNat (0 : Int)) = (-1 : Int))) = false → True))) ∧ (((decide ((100 : Int) ≤ (l.getD (v52).toNat (0 : Int)))) || ((decide ((0 : Int) ≤ (l.getD (v52).toNat (0 : Int)))) && (decide ((l.getD (v52).toNat (0 : Int)) < (ops.length : Int))))) = false → (marks = true → True)) ∧ (((decide ((100 : Int) ≤ (l.getD (v52).toNat (0 : Int)))) || ((decide ((0 : Int) ≤ (l.getD (v52).toNat (0 : Int)))) && (decide ((l.getD (v52).toNat (0 : Int)) < (ops.length : Int))))) = false → True) ∧ True ∧ True)) (st' := (⟨80, [(0, [], .v (.c (.p (.sl (.pr (.int .i64) .bool)) ops))), (2, [], .v (.c (.p .bool marks))), (50, [], .v (.c (.p (.sl (.int .i64)) l))), (51, [], .v (.c (.p (.int .i64) (l.length : Int)))), (52, [], .v (.c (.p (.int .i64) v52))), (78, [], .v (.c (.p .bool (((decide ((100 : Int) ≤ (l.getD (v52).toNat (0 : Int)))) || ((decide ((0 : Int) ≤ (l.getD (v52).toNat (0 : Int)))) && (decide ((l.getD (v52).toNat (0 : Int)) < (ops.length : Int))))) || (marks && ((decide ((l.getD (v52).toNat (0 : Int)) = (-1 : Int))) || (decide ((l.getD (v52).toNat (0 : Int)) = (-2 : Int)))))))))], []⟩ : St)) (by kernel_rfl) ⟨trivial, trivial, trivial, (fun _ => trivial), (fun _ => trivial), (fun _ => trivial), (fun _ _ => trivial), (fun _ _ => trivial), (fun _ _ => trivial), (fun _ _ => trivial), (fun _ => trivial), trivial, trivial, (fun _ => trivial), (fun _ => trivial), (fun _ _ => trivial), (fun _ _ => trivial), (fun _ _ => trivial), (fun _ _ _ => trivial), (fun _ _ _ => trivial), (fun _ _ => trivial), (fun _ => trivial), trivial, trivial⟩ ?_
          refine awl_nil ?_
          refine thenQ_n ?_
          refine aw_cond (b := (((decide ((100 : Int) ≤ (l.getD (v52).toNat (0 : Int)))) || ((decide ((0 : Int) ≤ (l.getD (v52).toNat (0 : Int)))) && (decide ((l.getD (v52).toNat (0 : Int)) < (ops.length : Int))))) || (marks && ((decide ((l.getD (v52).toNat (0 : Int)) = (-1 : Int))) || (decide ((l.getD (v52).toNat (0 : Int)) = (-2 : Int))))))) (by kernel_rfl) (fun hb => ?_) (fun hb => ?_)
          · have h := h.1 hb
            refine aw_exit ?_
            refine thenQ_x ?_
            refine blockQ_hit ?_
            refine thenQ_n ?_
            refine aw_region ?_
            obtain ⟨o1, h⟩ := h
            refine awl_runp 2 [0, 2, 50, 51, 52] [] (ob := (InR (v52 + (1 : Int)) ∧ True ∧ True)) (st' := (⟨80, [(0, [], .v (.c (.p (.sl (.pr (.int .i64) .bool)) ops))), (2, [], .v (.c (.p .bool marks))), (50, [], .v (.c (.p (.sl (.int .i64)) l))), (51, [], .v (.c (.p (.int .i64) (l.length : Int)))), (52, [], .v (.c (.p (.int .i64) (v52 + (1 : Int)))))], []⟩ : St)) (by kernel_rfl) ⟨o1, trivial, trivial⟩ ?_
            refine awl_nil ?_
            exact thenQ_n ⟨(v52 + (1 : Int)), rfl, h⟩
          · have h := h.2 hb
            refine aw_skip ?_
            refine thenQ_n ?_
            refine aw_seq ?_
            refine aw_region ?_
            refine awl_runp 1 [6] [] (ob := (True ∧ True)) (st' := (⟨80, [(6, [], .v (.c (.p (.int .i64) (2 : Int))))], []⟩ : St)) (by kernel_rfl) ⟨trivial, trivial⟩ ?_
            refine awl_nil ?_
            refine thenQ_n ?_
            refine aw_ret ?_
            refine blockQ_r ?_
            refine thenQ_r ?_
            refine thenQ_r ?_
            refine blockQ_r ?_
            refine thenQ_r ?_
            exact retQ_r (σ := Int) (R := (fun y => [toV1 (.int .i64) y])) (ob := (True ∧ True)) (2 : Int) (by kernel_rfl) ⟨trivial, trivial⟩ h
        · have h := h.2 hb
          refine aw_conv [.prune [] []] (st' := (⟨80, [], []⟩ : St)) (by kernel_rfl) ?_
          refine aw_exit ?_
          refine thenQ_x ?_
          refine thenQ_x ?_
          refine blockQ_hit ?_
          exact rest1 () h
    · refine aw_block ?_
      refine aw_loop (σ := Int) (fun s => (⟨80, [(0, [], .v (.c (.p (.sl (.pr (.int .i64) .bool)) ops))), (1, [], .v (.c (.p (.sl (.int .i64)) l))), (2, [], .v (.c (.p .bool marks))), (21, [], .v (.c (.p (.sl (.pr (.int .i64) .bool)) ops))), (22, [], .v (.c (.p (.int .i64) (ops.length : Int)))), (23, [], .v (.c (.p (.int .i64) s)))], []⟩ : St)) (fun s X => VC57_l2 ops l marks K s X) (s0 := (0 : Int)) (fun v23 X2 h => ?_) h
      have h : VC57_l2 ops l marks K v23 X2 := h
      unfold VC57_l2 at h
      refine aw_seq ?_
      refine aw_region ?_
      refine awl_runp 1 [0, 1, 2, 21, 22, 23, 24] [] (ob := (True ∧ True)) (st' := (⟨80, [(0, [], .v (.c (.p (.sl (.pr (.int .i64) .bool)) ops))), (1, [], .v (.c (.p (.sl (.int .i64)) l))), (2, [], .v (.c (.p .bool marks))), (21, [], .v (.c (.p (.sl (.pr (.int .i64) .bool)) ops))), (22, [], .v (.c (.p (.int .i64) (ops.length : Int)))), (23, [], .v (.c (.p (.int .i64) v23))), (24, [], .v (.c (.p .bool (decide (v23 < (ops.length : Int))))))], []⟩ : St)) (by kernel_rfl) ⟨trivial, trivial⟩ ?_
      refine awl_nil ?_
      refine thenQ_n ?_
      refine aw_seq ?_
      refine aw_cond (b := (decide (v23 < (ops.length : Int)))) (by kernel_rfl) (fun hb => ?_) (fun hb => ?_)
      · have h := h.1 hb
        refine aw_skip ?_
        refine thenQ_n ?_
        refine aw_seq ?_
        refine aw_block ?_
        refine aw_seq ?_
        refine aw_region ?_
        obtain ⟨o1, h⟩ := h
        refine awl_runp 6 [0, 1, 2, 7, 8, 21, 22, 23] [8] (ob := (True ∧ inIdx v23 ops.length ∧ True ∧ True ∧ True ∧ True ∧ True)) (st' := (⟨80, [(0, [], .v (.c (.p (.sl (.pr (.int .i64) .bool)) ops))), (1, [], .v (.c (.p (.sl (.int .i64)) l))), (2, [], .v (.c (.p .bool marks))), (7, [], .v (.c (.p (.int .i64) v23))), (8, [], .v (.c (.ptr 8 0))), (21, [], .v (.c (.p (.sl (.pr (.int .i64) .bool)) ops))), (22, [], .v (.c (.p (.int .i64) (ops.length : Int)))), (23, [], .v (.c (.p (.int .i64) v23)))], [(8, [], .box [.p (.int .i64) ((ops.getD (v23).toNat ((0 : Int), false)).1), .p .bool ((ops.getD (v23).toNat ((0 : Int), false)).2)])]⟩ : St)) (by kernel_rfl) ⟨trivial, o1, trivial, trivial, trivial, trivial, trivial⟩ ?_
        refine awl_nil ?_
        refine thenQ_n ?_
        refine aw_seq ?_
        refine aw_region ?_
        obtain ⟨o1, h⟩ := h
        refine awl_runp 5 [0, 1, 2, 8, 21, 22, 23, 30, 31, 32] [8] (ob := (True ∧ True ∧ (0 ≤ v23 ∧ v23 ≤ (ops.length : Int)) ∧ True ∧ True ∧ True)) (st' := (⟨80, [(0, [], .v (.c (.p (.sl (.pr (.int .i64) .bool)) ops))), (1, [], .v (.c (.p (.sl (.int .i64)) l))), (2, [], .v (.c (.p .bool marks))), (8, [], .v (.c (.ptr 8 0))), (21, [], .v (.c (.p (.sl (.pr (.int .i64) .bool)) ops))), (22, [], .v (.c (.p (.int .i64) (ops.length : Int)))), (23, [], .v (.c (.p (.int .i64) v23))), (30, [], .v (.c (.p (.sl (.pr (.int .i64) .bool)) (ops.take (v23).toNat)))), (31, [], .v (.c (.p (.int .i64) ((ops.take (v23).toNat).length : Int)))), (32, [], .v (.c (.p (.int .i64) (0 : Int))))], [(8, [], .box [.p (.int .i64) ((ops.getD (v23).toNat ((0 : Int), false)).1), .p .bool ((ops.getD (v23).toNat ((0 : Int), false)).2)])]⟩ : St)) (by kernel_rfl) ⟨trivial, trivial, o1, trivial, trivial, trivial⟩ ?_
        refine awl_nil ?_
        refine thenQ_n ?_
        refine withJoin (σ := Unit) (fun s => (⟨80, [(0, [], .v (.c (.p (.sl (.pr (.int .i64) .bool)) ops))), (1, [], .v (.c (.p (.sl (.int .i64)) l))), (2, [], .v (.c (.p .bool marks))), (21, [], .v (.c (.p (.sl (.pr (.int .i64) .bool)) ops))), (22, [], .v (.c (.p (.int .i64) (ops.length : Int)))), (23, [], .v (.c (.p (.int .i64) v23)))], []⟩ : St)) (fun s => VC57_k3 v23 X2) (fun s h => ?_) (fun rest3 => ?_)
        · have h : VC57_k3 v23 X2 := h
          unfold VC57_k3 at h
          refine blockQ_n ?_
          refine thenQ_n ?_
          refine aw_region ?_
          obtain ⟨o1, h⟩ := h
          refine awl_runp 2 [0, 1, 2, 21, 22, 23] [] (ob := (InR (v23 + (1 : Int)) ∧ True ∧ True)) (st' := (⟨80, [(0, [], .v (.c (.p (.sl (.pr (.int .i64) .bool)) ops))), (1, [], .v (.c (.p (.sl (.int .i64)) l))), (2, [], .v (.c (.p .bool marks))), (21, [], .v (.c (.p (.sl (.pr (.int .i64) .bool)) ops))), (22, [], .v (.c (.p (.int .i64) (ops.length : Int)))), (23, [], .v (.c (.p (.int .i64) (v23 + (1 : Int)))))], []⟩ : St)) (by kernel_rfl) ⟨o1, trivial, trivial⟩ ?_
          refine awl_nil ?_
          exact thenQ_n ⟨(v23 + (1 : Int)), rfl, h⟩
        · refine aw_block ?_
          refine aw_loop (σ := Int) (fun s => (⟨80, [(0, [], .v (.c (.p (.sl (.pr (.int .i64) .bool)) ops))), (1, [], .v (.c (.p (.sl (.int .i64)) l))), (2, [], .v (.c (.p .bool marks))), (8, [], .v (.c (.ptr 8 0))), (21, [], .v (.c (.p (.sl (.pr (.int .i64) .bool)) ops))), (22, [], .v (.c (.p (.int .i64) (ops.length : Int)))), (23, [], .v (.c (.p (.int .i64) v23))), (30, [], .v (.c (.p (.sl (.pr (.int .i64) .bool)) (ops.take (v23).toNat)))), (31, [], .v (.c (.p (.int .i64) ((ops.take (v23).toNat).length : Int)))), (32, [], .v (.c (.p (.int .i64) s)))], [(8, [], .box [.p (.int .i64) ((ops.getD (v23).toNat ((0 : Int), false)).1), .p .bool ((ops.getD (v23).toNat ((0 : Int), false)).2)])]⟩ : St)) (fun s X => VC57_l3 ops K v23 X2 s X) (s0 := (0 : Int)) (fun v32 X3 h => ?_) h
          have h : VC57_l3 ops K v23 X2 v32 X3 := h
          unfold VC57_l3 at h
          refine aw_seq ?_
          refine aw_region ?_
          refine awl_runp 1 [0, 1, 2, 8, 21, 22, 23, 30, 31, 32, 33] [8] (ob := (True ∧ True)) (st' := (⟨80, [(0, [], .v (.c (.p (.sl (.pr (.int .i64) .bool)) ops))), (1, [], .v (.c (.p (.sl (.int .i64)) l))), (2, [], .v (.c (.p .bool marks))), (8, [], .v (.c (.ptr 8 0))), (21, [], .v (.c (.p (.sl (.pr (.int .i64) .bool)) ops))), (22, [], .v (.c (.p (.int .i64) (ops.length : Int)))), (23, [], .v (.c (.p (.int .i64) v23))), (30, [], .v (.c (.p (.sl (.pr (.int .i64) .bool)) (ops.take (v23).toNat)))), (31, [], .v (.c (.p (.int .i64) ((ops.take (v23).toNat).length : Int)))), (32, [], .v (.c (.p (.int .i64) v32))), (33, [], .v (.c (.p .bool (decide (v32 < ((ops.take (v23).toNat).length : Int))))))], [(8, [], .box [.p (.int .i64) ((ops.getD (v23).toNat ((0 : Int), false)).1), .p .bool ((ops.getD (v23).toNat ((0 : Int), false)).2)])]⟩ : St)) (by kernel_rfl) ⟨trivial, trivial⟩ ?_
          refine awl_nil ?_
          refine thenQ_n ?_
          refine aw_seq ?_
          refine aw_cond (b := (decide (v32 < ((ops.take (v23).toNat).length : Int)))) (by kernel_rfl) (fun hb => ?_) (fun hb => ?_)
          · have h := h.1 hb
            refine aw_skip ?_
            refine thenQ_n ?_
            refine aw_seq ?_
            refine aw_block ?_
            refine aw_seq ?_
            refine aw_region ?_
            obtain ⟨o1, h⟩ := h
            refine awl_runp 4 [0, 1, 2, 8, 10, 21, 22, 23, 30, 31, 32] [8, 10] (ob := (inIdx v32 (ops.take (v23).toNat).length ∧ True ∧ True ∧ True ∧ True)) (st' := (⟨80, [(0, [], .v (.c (.p (.sl (.pr (.int .i64) .bool)) ops))), (1, [], .v (.c (.p (.sl (.int .i64)) l))), (2, [], .v (.c (.p .bool marks))), (8, [], .v (.c (.ptr 8 0))), (10, [], .v (.c (.ptr 10 0))), (21, [], .v (.c (.p (.sl (.pr (.int .i64) .bool)) ops))), (22, [], .v (.c (.p (.int .i64) (ops.length : Int)))), (23, [], .v (.c (.p (.int .i64) v23))), (30, [], .v (.c (.p (.sl (.pr (.int .i64) .bool)) (ops.take (v23).toNat)))), (31, [], .v (.c (.p (.int .i64) ((ops.take (v23).toNat).length : Int)))), (32, [], .v (.c (.p (.int .i64) v32)))], [(8, [], .box [.p (.int .i64) ((ops.getD (v23).toNat ((0 : Int), false)).1), .p .bool ((ops.getD (v23).toNat ((0 : Int), false)).2)]), (10, [], .box [.p (.int .i64) (((ops.take (v23).toNat).getD (v32).toNat ((0 : Int), false)).1), .p .bool (((ops.take (v23).toNat).getD (v32).toNat ((0 : Int), false)).2)])]⟩ : St)) (by kernel_rfl) ⟨o1, trivial, trivial, trivial, trivial⟩ ?_
            refine awl_nil ?_
            refine thenQ_n ?_
            refine aw_seq ?_
            refine aw_region ?_
            refine awl_runp 12 [0, 1, 2, 8, 21, 22, 23, 30, 31, 32, 47] [8] (ob := (True ∧ True ∧ True ∧ True ∧ True ∧ True ∧ ((decide ((ops.getD (v23).toNat ((0 : Int), false)).1 = ((ops.take (v23).toNat).getD (v32).toNat ((0 : Int), false)).1)) = true → True) ∧ ((decide ((ops.getD (v23).toNat ((0 : Int), false)).1 = ((ops.take (v23).toNat).getD (v32).toNat ((0 : Int), false)).1)) = true → True) ∧ ((decide ((ops.getD (v23).toNat ((0 : Int), false)).1 = ((ops.take (v23).toNat).getD (v32).toNat ((0 : Int), false)).1)) = true → True) ∧ ((decide ((ops.getD (v23).toNat ((0 : Int), false)).1 = ((ops.take (v23).toNat).getD (v32).toNat ((0 : Int), false)).1)) = true → True) ∧ ((decide ((ops.getD (v23).toNat ((0 : Int), false)).1 = ((ops.take (v23).toNat).getD (v32).toNat ((0 : Int), false)).1)) = true → True) ∧ True ∧ True)) (st' := (⟨80, [(0, [], .v (.c (.p (.sl (.pr (.int .i64) .bool)) ops))), (1, [], .v (.c (.p (.sl (.int .i64)) l))), (2, [], .v (.c (.p .bool marks))), (8, [], .v (.c (.ptr 8 0))), (21, [], .v (.c (.p (.sl (.pr (.int .i64) .bool)) ops))), (22, [], .v (.c (.p (.int .i64) (ops.length : Int)))), (23, [], .v (.c (.p (.int .i64) v23))), (30, [], .v (.c (.p (.sl (.pr (.int .i64) .bool)) (ops.take (v23).toNat)))), (31, [], .v (.c (.p (.int .i64) ((ops.take (v23).toNat).length : Int)))), (32, [], .v (.c (.p (.int .i64) v32))), (47, [], .v (.c (.p .bool ((decide ((ops.getD (v23).toNat ((0 : Int), false)).1 = ((ops.take (v23).toNat).getD (v32).toNat ((0 : Int), false)).1)) && ((ops.getD (v23).toNat ((0 : Int), false)).2 != ((ops.take (v23).toNat).getD (v32).toNat ((0 : Int), false)).2)))))], [(8, [], .box [.p (.int .i64) ((ops.getD (v23).toNat ((0 : Int), false)).1), .p .bool ((ops.getD (v23).toNat ((0 : Int), false)).2)])]⟩ : St)) (by kernel_rfl) ⟨trivial, trivial, trivial, trivial, trivial, trivial, (fun _ => trivial), (fun _ => trivial), (fun _ => trivial), (fun _ => trivial), (fun _ => trivial), trivial, trivial⟩ ?_
            refine awl_nil ?_
            refine thenQ_n ?_
            refine aw_cond (b := ((decide ((ops.getD (v23).toNat ((0 : Int), false)).1 = ((ops.take (v23).toNat).getD (v32).toNat ((0 : Int), false)).1)) && ((ops.getD (v23).toNat ((0 : Int), false)).2 != ((ops.take (v23).toNat).getD (v32).toNat ((0 : Int), false)).2))) (by kernel_rfl) (fun hb => ?_) (fun hb => ?_)
            · have h := h.1 hb
              refine aw_seq ?_
              refine aw_region ?_
              refine awl_runp 1 [6] [] (ob := (True ∧ True)) (st' := (⟨80, [(6, [], .v (.c (.p (.int .i64) (3 : Int))))], []⟩ : St)) (by kernel_rfl) ⟨trivial, trivial⟩ ?_
              refine awl_nil ?_
              refine thenQ_n ?_
              refine aw_ret ?_
              refine blockQ_r ?_
              refine thenQ_r ?_
              refine thenQ_r ?_
              refine blockQ_r ?_
              refine blockQ_r ?_
              refine thenQ_r ?_
              refine thenQ_r ?_
              refine blockQ_r ?_
              refine thenQ_r ?_
              exact retQ_r (σ := Int) (R := (fun y => [toV1 (.int .i64) y])) (ob := (True ∧ True)) (3 : Int) (by kernel_rfl) ⟨trivial, trivial⟩ h
            · have h := h.2 hb
              refine aw_skip ?_
              refine blockQ_n ?_
              refine thenQ_n ?_
              refine aw_region ?_
              obtain ⟨o1, h⟩ := h
              refine awl_runp 2 [0, 1, 2, 8, 21, 22, 23, 30, 31, 32] [8] (ob := (InR (v32 + (1 : Int)) ∧ True ∧ True)) (st' := (⟨80, [(0, [], .v (.c (.p (.sl (.pr (.int .i64) .bool)) ops))), (1, [], .v (.c (.p (.sl (.int .i64)) l))), (2, [], .v (.c (.p .bool marks))), (8, [], .v (.c (.ptr 8 0))), (21, [], .v (.c (.p (.sl (.pr (.int .i64) .bool)) ops))), (22, [], .v (.c (.p (.int .i64) (ops.length : Int)))), (23, [], .v (.c (.p (.int .i64) v23))), (30, [], .v (.c (.p (.sl (.pr (.int .i64) .bool)) (ops.take (v23).toNat)))), (31, [], .v (.c (.p (.int .i64) ((ops.take (v23).toNat).length : Int)))), (32, [], .v (.c (.p (.int .i64) (v32 + (1 : Int)))))], [(8, [], .box [.p (.int .i64) ((ops.getD (v23).toNat ((0 : Int), false)).1), .p .bool ((ops.getD (v23).toNat ((0 : Int), false)).2)])]⟩ : St)) (by kernel_rfl) ⟨o1, trivial, trivial⟩ ?_
              refine awl_nil ?_
              exact thenQ_n ⟨(v32 + (1 : Int)), rfl, h⟩
          · have h := h.2 hb
            refine aw_conv [.prune [0, 1, 2, 21, 22, 23] []] (st' := (⟨80, [(0, [], .v (.c (.p (.sl (.pr (.int .i64) .bool)) ops))), (1, [], .v (.c (.p (.sl (.int .i64)) l))), (2, [], .v (.c (.p .bool marks))), (21, [], .v (.c (.p (.sl (.pr (.int .i64) .bool)) ops))), (22, [], .v (.c (.p (.int .i64) (ops.length : Int)))), (23, [], .v (.c (.p (.int .i64) v23)))], []⟩ : St)) (by kernel_rfl) ?_
            refine aw_exit ?_
            refine thenQ_x ?_
            refine thenQ_x ?_
            refine blockQ_hit ?_
            exact rest3 () h
      · have h := h.2 hb
        refine aw_conv [.prune [0, 1, 2] []] (st' := (⟨80, [(0, [], .v (.c (.p (.sl (.pr (.int .i64) .bool)) ops))), (1, [], .v (.c (.p (.sl (.int .i64)) l))), (2, [], .v (.c (.p .bool marks)))], []⟩ : St)) (by kernel_rfl) ?_
        refine aw_exit ?_
        refine thenQ_x ?_
        refine thenQ_x ?_
        refine blockQ_hit ?_
        exact rest2 () h

-- coppicer/coppicerkeep.operated
def VC30 (ops : (List (Int × Bool))) (l : (List Int)) (marks : Bool) (K : Bool → Prop) : Prop :=
  VC57 ops l marks (fun (ret10v : Int) => K (decide (ret10v = (0 : Int))))

set_option maxHeartbeats 4000000 in
theorem link30 (ops : (List (Int × Bool))) (l : (List Int)) (marks : Bool) (K : Bool → Prop) (h : VC30 ops l marks K) : ACalls Try.prog 30 [toV1 (.sl (.pr (.int .i64) .bool)) ops, toV1 (.sl (.int .i64)) l, toV1 .bool marks] (fun res => ∃ y, res = (fun y => [toV1 .bool y]) y ∧ K y) := by
  refine acalls_of_aw [.bool] [.t 6] Try.func30 rfl rfl rfl ?_
  unfold VC30 at h
  refine aw_seq ?_
  refine aw_region ?_
  refine awl_runp 1 [0, 1, 2] [] (ob := (True ∧ True)) (st' := (⟨12, [(0, [], .v (.c (.p (.sl (.pr (.int .i64) .bool)) ops))), (1, [], .v (.c (.p (.sl (.int .i64)) l))), (2, [], .v (.c (.p .bool marks)))], []⟩ : St)) (by kernel_rfl) ⟨trivial, trivial⟩ ?_
  refine awl_nil ?_
  refine thenQ_n ?_
  refine aw_seq ?_
  refine aw_region ?_
  refine awl_runp 3 [7, 8, 9] [] (ob := (True ∧ True ∧ True ∧ True)) (st' := (⟨12, [(7, [], .v (.c (.p (.sl (.pr (.int .i64) .bool)) ops))), (8, [], .v (.c (.p (.sl (.int .i64)) l))), (9, [], .v (.c (.p .bool marks)))], []⟩ : St)) (by kernel_rfl) ⟨trivial, trivial, trivial, trivial⟩ ?_
  refine awl_callk (p := []) (l := [toV1 (.sl (.pr (.int .i64) .bool)) ops, toV1 (.sl (.int .i64)) l, toV1 .bool marks]) (cl := []) false [.d (.sl (.pr (.int .i64) .bool)), .d (.sl (.int .i64)), .d .bool] [10] [] (fun (ret10v : Int) => K (decide (ret10v = (0 : Int)))) (fun ret10v => [toV1 (.int .i64) ret10v]) (fun ret10v => (⟨12, [(10, [], .v (.c (.p (.int .i64) ret10v)))], []⟩ : St)) (by kernel_rfl) rfl (by kernel_rfl) rfl (by kernel_rfl) Try.call57 (by kernel_rfl) (fun ret10v => by kernel_rfl) (fun e => by cases e) (fun hg => link57 ops l marks _ h) (fun hg => noF hg) (fun ret10v h => ?_)
  have h : K (decide (ret10v = (0 : Int))) := h
  refine awl_runp 2 [6] [] (ob := (True ∧ True ∧ True)) (st' := (⟨12, [(6, [], .v (.c (.p .bool (decide (ret10v = (0 : Int))))))], []⟩ : St)) (by kernel_rfl) ⟨trivial, trivial, trivial⟩ ?_
  refine awl_nil ?_
  refine thenQ_n ?_
  refine aw_ret ?_
  exact retQ_r (σ := Bool) (R := (fun y => [toV1 .bool y])) (ob := (True ∧ True)) (decide (ret10v = (0 : Int))) (by kernel_rfl) ⟨trivial, trivial⟩ h

-- coppicer/coppicerref.Half
def VC58_k1 (K : Int → Prop) : Prop :=
  K (-1 : Int)

def VC58_k2 (K : Int → Prop) (i : Int) (X1 : Int × Int → Prop) (need2 : Int) : Prop :=
  (((decide (need2 = (0 : Int))) = true → K i) ∧ ((decide (need2 = (0 : Int))) = false → (InR (i - (1 : Int)) ∧ X1 (need2, (i - (1 : Int))))))

def VC58_l1 (post : (List Int)) (K : Int → Prop) (need : Int) (i : Int) (X1 : Int × Int → Prop) : Prop :=
  (((decide ((0 : Int) < i)) = true → (inIdx i post.length ∧ (((decide ((100 : Int) ≤ (post.getD (i).toNat (0 : Int)))) = true → (InR (need - (1 : Int)) ∧ VC58_k2 K i X1 (need - (1 : Int)))) ∧ ((decide ((100 : Int) ≤ (post.getD (i).toNat (0 : Int)))) = false → (InR (need + (1 : Int)) ∧ VC58_k2 K i X1 (need + (1 : Int))))))) ∧ ((decide ((0 : Int) < i)) = false → VC58_k1 K))

def VC58 (post : (List Int)) (K : Int → Prop) : Prop :=
  (((decide ((post.length : Int) < (3 : Int))) = false → InR ((post.length : Int) - (1 : Int))) ∧ ((decide ((post.length : Int) < (3 : Int))) = false → inIdx ((post.length : Int) - (1 : Int)) post.length) ∧ ((((decide ((post.length : Int) < (3 : Int))) || (decide ((100 : Int) ≤ (post.getD (((post.length : Int) - (1 : Int))).toNat (0 : Int))))) = true → K (-1 : Int)) ∧ (((decide ((post.length : Int) < (3 : Int))) || (decide ((100 : Int) ≤ (post.getD (((post.length : Int) - (1 : Int))).toNat (0 : Int))))) = false → (InR ((post.length : Int) - (2 : Int)) ∧ Loop (σ := Int × Int) (fun s X => VC58_l1 post K s.1 s.2 X) ((1 : Int), ((post.length : Int) - (2 : Int)))))))

set_option maxHeartbeats 4000000 in
theorem link58 (post : (List Int)) (K : Int → Prop) (h : VC58 post K) : ACalls Try.prog 58 [toV1 (.sl (.int .i64)) post] (fun res => ∃ y, res = (fun y => [toV1 (.int .i64) y]) y ∧ K y) := by
  refine acalls_of_aw [(.int .i64)] [.t 2] Try.func58 rfl rfl rfl ?_
  unfold VC58 at h
  refine aw_seq ?_
  refine aw_region ?_
  refine awl_runp 1 [0] [] (ob := (True ∧ True)) (st' := (⟨36, [(0, [], .v (.c (.p (.sl (.int .i64)) post)))], []⟩ : St)) (by kernel_rfl) ⟨trivial, trivial⟩ ?_
  refine awl_nil ?_
  refine thenQ_n ?_
  refine aw_seq ?_
  refine aw_seq ?_
  refine aw_region ?_
  obtain ⟨o1, o2, h⟩ := h
  refine awl_runp 12 [0, 16] [] (ob := (True ∧ True ∧ True ∧ True ∧ ((decide ((post.length : Int) < (3 : Int))) = false → True) ∧ ((decide ((post.length : Int) < (3 : Int))) = false → True) ∧ ((decide ((post.length : Int) < (3 : Int))) = false → True) ∧ ((decide ((post.length : Int) < (3 : Int))) = false → InR ((post.length : Int) - (1 : Int))) ∧ ((decide ((post.length : Int) < (3 : Int))) = false → inIdx ((post.length : Int) - (1 : Int)) post.length) ∧ ((decide ((post.length : Int) < (3 : Int))) = false → True) ∧ ((decide ((post.length : Int) < (3 : Int))) = false → True) ∧ True ∧ True)) (st' := (⟨36, [(0, [], .v (.c (.p (.sl (.int .i64)) post))), (16, [], .v (.c (.p .bool ((decide ((post.length : Int) < (3 : Int))) || (decide ((100 : Int) ≤ (post.getD (((post.length : Int) - (1 : Int))).toNat (0 : Int))))))))], []⟩ : St)) (by kernel_rfl) ⟨trivial, trivial, trivial, trivial, (fun _ => trivial), (fun _ => trivial), (fun _ => trivial), o1, o2, (fun _ => trivial), (fun _ => trivial), trivial, trivial⟩ ?_
  refine awl_nil ?_
  refine thenQ_n ?_
  refine aw_cond (b := ((decide ((post.length : Int) < (3 : Int))) || (decide ((100 : Int) ≤ (post.getD (((post.length : Int) - (1 : Int))).toNat (0 : Int)))))) (by kernel_rfl) (fun hb => ?_) (fun hb => ?_)
  · have h := h.1 hb
    refine aw_seq ?_
    refine aw_region ?_
    refine awl_runp 1 [2] [] (ob := (True ∧ True)) (st' := (⟨36, [(2, [], .v (.c (.p (.int .i64) (-1 : Int))))], []⟩ : St)) (by kernel_rfl) ⟨trivial, trivial⟩ ?_
    refine awl_nil ?_
    refine thenQ_n ?_
    refine aw_ret ?_
    refine thenQ_r ?_
    exact retQ_r (σ := Int) (R := (fun y => [toV1 (.int .i64) y])) (ob := (True ∧ True)) (-1 : Int) (by kernel_rfl) ⟨trivial, trivial⟩ h
  · have h := h.2 hb
    refine aw_skip ?_
    refine thenQ_n ?_
    refine aw_seq ?_
    refine aw_region ?_
    refine awl_runp 1 [0, 3] [] (ob := (True ∧ True)) (st' := (⟨36, [(0, [], .v (.c (.p (.sl (.int .i64)) post))), (3, [], .v (.c (.p (.int .i64) (1 : Int))))], []⟩ : St)) (by kernel_rfl) ⟨trivial, trivial⟩ ?_
    refine awl_nil ?_
    refine thenQ_n ?_
    refine aw_seq ?_
    refine aw_seq ?_
    refine aw_region ?_
    obtain ⟨o1, h⟩ := h
    refine awl_runp 4 [0, 3, 4] [] (ob := (True ∧ True ∧ InR ((post.length : Int) - (2 : Int)) ∧ True ∧ True)) (st' := (⟨36, [(0, [], .v (.c (.p (.sl (.int .i64)) post))), (3, [], .v (.c (.p (.int .i64) (1 : Int)))), (4, [], .v (.c (.p (.int .i64) ((post.length : Int) - (2 : Int)))))], []⟩ : St)) (by kernel_rfl) ⟨trivial, trivial, o1, trivial, trivial⟩ ?_
    refine awl_nil ?_
    refine thenQ_n ?_
    refine withJoin (σ := Unit) (fun s => (⟨36, [], []⟩ : St)) (fun s => VC58_k1 K) (fun s h => ?_) (fun rest1 => ?_)
    · have h : VC58_k1 K := h
      unfold VC58_k1 at h
      refine thenQ_n ?_
      refine aw_seq ?_
      refine aw_region ?_
      refine awl_runp 1 [2] [] (ob := (True ∧ True)) (st' := (⟨36, [(2, [], .v (.c (.p (.int .i64) (-1 : Int))))], []⟩ : St)) (by kernel_rfl) ⟨trivial, trivial⟩ ?_
      refine awl_nil ?_
      refine thenQ_n ?_
      refine aw_ret ?_
      exact retQ_r (σ := Int) (R := (fun y => [toV1 (.int .i64) y])) (ob := (True ∧ True)) (-1 : Int) (by kernel_rfl) ⟨trivial, trivial⟩ h
    · refine aw_block ?_
      refine aw_loop (σ := Int × Int) (fun s => (⟨36, [(0, [], .v (.c (.p (.sl (.int .i64)) post))), (3, [], .v (.c (.p (.int .i64) s.1))), (4, [], .v (.c (.p (.int .i64) s.2)))], []⟩ : St)) (fun s X => VC58_l1 post K s.1 s.2 X) (s0 := ((1 : Int), ((post.length : Int) - (2 : Int)))) (fun s X1 h => ?_) h
      obtain ⟨need, i⟩ := s
      have h : VC58_l1 post K need i X1 := h
      unfold VC58_l1 at h
      refine aw_seq ?_
      refine aw_seq ?_
      refine aw_region ?_
      refine awl_runp 2 [0, 3, 4, 21] [] (ob := (True ∧ True ∧ True)) (st' := (⟨36, [(0, [], .v (.c (.p (.sl (.int .i64)) post))), (3, [], .v (.c (.p (.int .i64) need))), (4, [], .v (.c (.p (.int .i64) i))), (21, [], .v (.c (.p .bool (decide ((0 : Int) < i)))))], []⟩ : St)) (by kernel_rfl) ⟨trivial, trivial, trivial⟩ ?_
      refine awl_nil ?_
      refine thenQ_n ?_
      refine aw_cond (b := (decide ((0 : Int) < i))) (by kernel_rfl) (fun hb => ?_) (fun hb => ?_)
      · have h := h.1 hb
        refine aw_skip ?_
        refine thenQ_n ?_
        refine aw_seq ?_
        refine aw_block ?_
        refine aw_seq ?_
        refine aw_seq ?_
        refine aw_region ?_
        obtain ⟨o1, h⟩ := h
        refine awl_runp 5 [0, 3, 4, 28] [] (ob := (True ∧ True ∧ inIdx i post.length ∧ True ∧ True ∧ True)) (st' := (⟨36, [(0, [], .v (.c (.p (.sl (.int .i64)) post))), (3, [], .v (.c (.p (.int .i64) need))), (4, [], .v (.c (.p (.int .i64) i))), (28, [], .v (.c (.p .bool (decide ((100 : Int) ≤ (post.getD (i).toNat (0 : Int)))))))], []⟩ : St)) (by kernel_rfl) ⟨trivial, trivial, o1, trivial, trivial, trivial⟩ ?_
        refine awl_nil ?_
        refine thenQ_n ?_
        refine withJoin (σ := Int) (fun s => (⟨36, [(0, [], .v (.c (.p (.sl (.int .i64)) post))), (3, [], .v (.c (.p (.int .i64) s))), (4, [], .v (.c (.p (.int .i64) i)))], []⟩ : St)) (fun s => VC58_k2 K i X1 s) (fun need2 h => ?_) (fun rest2 => ?_)
        · have h : VC58_k2 K i X1 need2 := h
          unfold VC58_k2 at h
          refine thenQ_n ?_
          refine aw_seq ?_
          refine aw_region ?_
          refine awl_runp 2 [0, 3, 4, 34] [] (ob := (True ∧ True ∧ True)) (st' := (⟨36, [(0, [], .v (.c (.p (.sl (.int .i64)) post))), (3, [], .v (.c (.p (.int .i64) need2))), (4, [], .v (.c (.p (.int .i64) i))), (34, [], .v (.c (.p .bool (decide (need2 = (0 : Int))))))], []⟩ : St)) (by kernel_rfl) ⟨trivial, trivial, trivial⟩ ?_
          refine awl_nil ?_
          refine thenQ_n ?_
          refine aw_cond (b := (decide (need2 = (0 : Int)))) (by kernel_rfl) (fun hb => ?_) (fun hb => ?_)
          · have h := h.1 hb
            refine aw_seq ?_
            refine aw_region ?_
            refine awl_runp 2 [2] [] (ob := (True ∧ True ∧ True)) (st' := (⟨36, [(2, [], .v (.c (.p (.int .i64) i)))], []⟩ : St)) (by kernel_rfl) ⟨trivial, trivial, trivial⟩ ?_
            refine awl_nil ?_
            refine thenQ_n ?_
            refine aw_ret ?_
            refine blockQ_r ?_
            refine thenQ_r ?_
            refine thenQ_r ?_
            refine blockQ_r ?_
            refine thenQ_r ?_
            exact retQ_r (σ := Int) (R := (fun y => [toV1 (.int .i64) y])) (ob := (True ∧ True)) i (by kernel_rfl) ⟨trivial, trivial⟩ h
          · have h := h.2 hb
            refine aw_skip ?_
            refine blockQ_n ?_
            refine thenQ_n ?_
            refine aw_region ?_
            obtain ⟨o1, h⟩ := h
            refine awl_runp 3 [0, 3, 4] [] (ob := (True ∧ InR (i - (1 : Int)) ∧ True ∧ True)) (st' := (⟨36, [(0, [], .v (.c (.p (.sl (.int .i64)) post))), (3, [], .v (.c (.p (.int .i64) need2))), (4, [], .v (.c (.p (.int .i64) (i - (1 : Int)))))], []⟩ : St)) (by kernel_rfl) ⟨trivial, o1, trivial, trivial⟩ ?_
            refine awl_nil ?_
            exact thenQ_n ⟨(need2, (i - (1 : Int))), rfl, h⟩
        · refine aw_cond (b := (decide ((100 : Int) ≤ (post.getD (i).toNat (0 : Int))))) (by kernel_rfl) (fun hb => ?_) (fun hb => ?_)
          · have h := h.1 hb
            refine aw_region ?_
            obtain ⟨o1, h⟩ := h
            refine awl_runp 3 [0, 3, 4] [] (ob := (True ∧ InR (need - (1 : Int)) ∧ True ∧ True)) (st' := (⟨36, [(0, [], .v (.c (.p (.sl (.int .i64)) post))), (3, [], .v (.c (.p (.int .i64) (need - (1 : Int))))), (4, [], .v (.c (.p (.int .i64) i)))], []⟩ : St)) (by kernel_rfl) ⟨trivial, o1, trivial, trivial⟩ ?_
            refine awl_nil ?_
            exact rest2 (need - (1 : Int)) h
          · have h := h.2 hb
            refine aw_region ?_
            obtain ⟨o1, h⟩ := h
            refine awl_runp 3 [0, 3, 4] [] (ob := (True ∧ InR (need + (1 : Int)) ∧ True ∧ True)) (st' := (⟨36, [(0, [], .v (.c (.p (.sl (.int .i64)) post))), (3, [], .v (.c (.p (.int .i64) (need + (1 : Int))))), (4, [], .v (.c (.p (.int .i64) i)))], []⟩ : St)) (by kernel_rfl) ⟨trivial, o1, trivial, trivial⟩ ?_
            refine awl_nil ?_
            exact rest2 (need + (1 : Int)) h
      · have h := h.2 hb
        refine aw_conv [.prune [] []] (st' := (⟨36, [], []⟩ : St)) (by kernel_rfl) ?_
        refine aw_exit ?_
        refine thenQ_x ?_
        refine thenQ_x ?_
        refine blockQ_hit ?_
        exact rest1 () h

-- coppicer/coppicerref.Post
def VC31 (R : (List Int) → (Bool → Prop) → Prop) (l : (List Int)) (K : Bool → Prop) : Prop :=
  (((decide ((l.length : Int) = (1 : Int))) = true → (inIdx (0 : Int) l.length ∧ K (decide ((100 : Int) ≤ (l.getD ((0 : Int)).toNat (0 : Int)))))) ∧ ((decide ((l.length : Int) = (1 : Int))) = false → VC58 l (fun (ret12v : Int) => (((decide ((0 : Int) < ret12v)) = true → (0 ≤ ret12v ∧ ret12v ≤ (l.length : Int))) ∧ gcall (α := Bool) (decide ((0 : Int) < ret12v)) (R (l.take (ret12v).toNat)) false (fun (ret19v : Bool) => ((((decide ((0 : Int) < ret12v)) && ret19v) = true → InR ((l.length : Int) - (1 : Int))) ∧ (((decide ((0 : Int) < ret12v)) && ret19v) = true → (0 ≤ ret12v ∧ ret12v ≤ ((l.length : Int) - (1 : Int)) ∧ ((l.length : Int) - (1 : Int)) ≤ (l.length : Int))) ∧ gcall (α := Bool) ((decide ((0 : Int) < ret12v)) && ret19v) (R ((l.take (((l.length : Int) - (1 : Int))).toNat).drop (ret12v).toNat)) false (fun (ret28v : Bool) => K (((decide ((0 : Int) < ret12v)) && ret19v) && ret28v))))))))

set_option maxHeartbeats 4000000 in
theorem link31 (R : (List Int) → (Bool → Prop) → Prop) (hR : ∀ (x0 : (List Int)) (K : Bool → Prop), R x0 K → ACalls Try.prog 31 [toV1 (.sl (.int .i64)) x0] (fun res => ∃ y, res = (fun y => [toV1 .bool y]) y ∧ K y)) (l : (List Int)) (K : Bool → Prop) (h : VC31 R l K) : ACalls Try.prog 31 [toV1 (.sl (.int .i64)) l] (fun res => ∃ y, res = (fun y => [toV1 .bool y]) y ∧ K y) := by
  refine acalls_of_aw [.bool] [.t 2] Try.func31 rfl rfl rfl ?_
  unfold VC31 at h
  refine aw_seq ?_
  refine aw_region ?_
  refine awl_runp 1 [0] [] (ob := (True ∧ True)) (st' := (⟨30, [(0, [], .v (.c (.p (.sl (.int .i64)) l)))], []⟩ : St)) (by kernel_rfl) ⟨trivial, trivial⟩ ?_
  refine awl_nil ?_
  refine thenQ_n ?_
  refine aw_seq ?_
  refine aw_seq ?_
  refine aw_region ?_
  refine awl_runp 3 [0, 6] [] (ob := (True ∧ True ∧ True ∧ True)) (st' := (⟨30, [(0, [], .v (.c (.p (.sl (.int .i64)) l))), (6, [], .v (.c (.p .bool (decide ((l.length : Int) = (1 : Int))))))], []⟩ : St)) (by kernel_rfl) ⟨trivial, trivial, trivial, trivial⟩ ?_
  refine awl_nil ?_
  refine thenQ_n ?_
  refine aw_cond (b := (decide ((l.length : Int) = (1 : Int)))) (by kernel_rfl) (fun hb => ?_) (fun hb => ?_)
  · have h := h.1 hb
    refine aw_seq ?_
    refine aw_region ?_
    obtain ⟨o1, h⟩ := h
    refine awl_runp 5 [2] [] (ob := (True ∧ inIdx (0 : Int) l.length ∧ True ∧ True ∧ True ∧ True)) (st' := (⟨30, [(2, [], .v (.c (.p .bool (decide ((100 : Int) ≤ (l.getD ((0 : Int)).toNat (0 : Int)))))))], []⟩ : St)) (by kernel_rfl) ⟨trivial, o1, trivial, trivial, trivial, trivial⟩ ?_
    refine awl_nil ?_
    refine thenQ_n ?_
    refine aw_ret ?_
    refine thenQ_r ?_
    exact retQ_r (σ := Bool) (R := (fun y => [toV1 .bool y])) (ob := (True ∧ True)) (decide ((100 : Int) ≤ (l.getD ((0 : Int)).toNat (0 : Int)))) (by kernel_rfl) ⟨trivial, trivial⟩ h
  · have h := h.2 hb
    refine aw_skip ?_
    refine thenQ_n ?_
    refine aw_seq ?_
    refine aw_region ?_
    refine awl_runp 1 [0, 11] [] (ob := (True ∧ True)) (st' := (⟨30, [(0, [], .v (.c (.p (.sl (.int .i64)) l))), (11, [], .v (.c (.p (.sl (.int .i64)) l)))], []⟩ : St)) (by kernel_rfl) ⟨trivial, trivial⟩ ?_
    refine awl_callk (p := []) (l := [toV1 (.sl (.int .i64)) l]) (cl := []) false [.d (.sl (.int .i64))] [0, 12] [] (fun (ret12v : Int) => (((decide ((0 : Int) < ret12v)) = true → (0 ≤ ret12v ∧ ret12v ≤ (l.length : Int))) ∧ gcall (α := Bool) (decide ((0 : Int) < ret12v)) (R (l.take (ret12v).toNat)) false (fun (ret19v : Bool) => ((((decide ((0 : Int) < ret12v)) && ret19v) = true → InR ((l.length : Int) - (1 : Int))) ∧ (((decide ((0 : Int) < ret12v)) && ret19v) = true → (0 ≤ ret12v ∧ ret12v ≤ ((l.length : Int) - (1 : Int)) ∧ ((l.length : Int) - (1 : Int)) ≤ (l.length : Int))) ∧ gcall (α := Bool) ((decide ((0 : Int) < ret12v)) && ret19v) (R ((l.take (((l.length : Int) - (1 : Int))).toNat).drop (ret12v).toNat)) false (fun (ret28v : Bool) => K (((decide ((0 : Int) < ret12v)) && ret19v) && ret28v)))))) (fun ret12v => [toV1 (.int .i64) ret12v]) (fun ret12v => (⟨30, [(0, [], .v (.c (.p (.sl (.int .i64)) l))), (12, [], .v (.c (.p (.int .i64) ret12v)))], []⟩ : St)) (by kernel_rfl) rfl (by kernel_rfl) rfl (by kernel_rfl) Try.call58 (by kernel_rfl) (fun ret12v => by kernel_rfl) (fun e => by cases e) (fun hg => link58 l _ h) (fun hg => noF hg) (fun ret12v h => ?_)
    have h : (((decide ((0 : Int) < ret12v)) = true → (0 ≤ ret12v ∧ ret12v ≤ (l.length : Int))) ∧ gcall (α := Bool) (decide ((0 : Int) < ret12v)) (R (l.take (ret12v).toNat)) false (fun (ret19v : Bool) => ((((decide ((0 : Int) < ret12v)) && ret19v) = true → InR ((l.length : Int) - (1 : Int))) ∧ (((decide ((0 : Int) < ret12v)) && ret19v) = true → (0 ≤ ret12v ∧ ret12v ≤ ((l.length : Int) - (1 : Int)) ∧ ((l.length : Int) - (1 : Int)) ≤ (l.length : Int))) ∧ gcall (α := Bool) ((decide ((0 : Int) < ret12v)) && ret19v) (R ((l.take (((l.length : Int) - (1 : Int))).toNat).drop (ret12v).toNat)) false (fun (ret28v : Bool) => K (((decide ((0 : Int) < ret12v)) && ret19v) && ret28v))))) := h
    refine awl_runp 1 [0, 3] [] (ob := (True ∧ True)) (st' := (⟨30, [(0, [], .v (.c (.p (.sl (.int .i64)) l))), (3, [], .v (.c (.p (.int .i64) ret12v)))], []⟩ : St)) (by kernel_rfl) ⟨trivial, trivial⟩ ?_
    refine awl_nil ?_
    refine thenQ_n ?_
    refine aw_seq ?_
    refine aw_region ?_
    obtain ⟨o1, h⟩ := h
    refine awl_runp 6 [0, 3, 15, 18] [] (ob := (True ∧ True ∧ True ∧ ((decide ((0 : Int) < ret12v)) = true → True) ∧ ((decide ((0 : Int) < ret12v)) = true → True) ∧ ((decide ((0 : Int) < ret12v)) = true → (0 ≤ ret12v ∧ ret12v ≤ (l.length : Int))) ∧ True)) (st' := (⟨30, [(0, [], .v (.c (.p (.sl (.int .i64)) l))), (3, [], .v (.c (.p (.int .i64) ret12v))), (15, [], .v (.c (.p .bool (decide ((0 : Int) < ret12v))))), (18, [(15, true)], .v (.c (.p (.sl (.int .i64)) (l.take (ret12v).toNat))))], []⟩ : St)) (by kernel_rfl) ⟨trivial, trivial, trivial, (fun _ => trivial), (fun _ => trivial), o1, trivial⟩ ?_
    refine awl_callk (p := [(15, true)]) (l := [toV1 (.sl (.int .i64)) (l.take (ret12v).toNat)]) (cl := []) false [.d (.sl (.int .i64))] [0, 3, 15, 19] [] (fun (ret19v : Bool) => ((((decide ((0 : Int) < ret12v)) && ret19v) = true → InR ((l.length : Int) - (1 : Int))) ∧ (((decide ((0 : Int) < ret12v)) && ret19v) = true → (0 ≤ ret12v ∧ ret12v ≤ ((l.length : Int) - (1 : Int)) ∧ ((l.length : Int) - (1 : Int)) ≤ (l.length : Int))) ∧ gcall (α := Bool) ((decide ((0 : Int) < ret12v)) && ret19v) (R ((l.take (((l.length : Int) - (1 : Int))).toNat).drop (ret12v).toNat)) false (fun (ret28v : Bool) => K (((decide ((0 : Int) < ret12v)) && ret19v) && ret28v)))) (fun ret19v => [toV1 .bool ret19v]) (fun ret19v => (⟨30, [(0, [], .v (.c (.p (.sl (.int .i64)) l))), (3, [], .v (.c (.p (.int .i64) ret12v))), (15, [], .v (.c (.p .bool (decide ((0 : Int) < ret12v))))), (19, [(15, true)], .v (.c (.p .bool ret19v)))], []⟩ : St)) (by kernel_rfl) rfl (by kernel_rfl) rfl (by kernel_rfl) Try.call31 (by kernel_rfl) (fun ret19v => by kernel_rfl) (fun e => by cases e) (fun hg => hR (l.take (ret12v).toNat) _ (by have := gcall_T h (show (decide ((0 : Int) < ret12v)) = true from hg); exact this)) (fun hg => ⟨false, by have := gcall_F h (show (decide ((0 : Int) < ret12v)) = false from hg); exact this⟩) (fun ret19v h => ?_)
    have h : ((((decide ((0 : Int) < ret12v)) && ret19v) = true → InR ((l.length : Int) - (1 : Int))) ∧ (((decide ((0 : Int) < ret12v)) && ret19v) = true → (0 ≤ ret12v ∧ ret12v ≤ ((l.length : Int) - (1 : Int)) ∧ ((l.length : Int) - (1 : Int)) ≤ (l.length : Int))) ∧ gcall (α := Bool) ((decide ((0 : Int) < ret12v)) && ret19v) (R ((l.take (((l.length : Int) - (1 : Int))).toNat).drop (ret12v).toNat)) false (fun (ret28v : Bool) => K (((decide ((0 : Int) < ret12v)) && ret19v) && ret28v))) := h
    obtain ⟨o1, o2, h⟩ := h
    refine awl_runp 8 [21, 27] [] (ob := (True ∧ True ∧ (((decide ((0 : Int) < ret12v)) && ret19v) = true → True) ∧ (((decide ((0 : Int) < ret12v)) && ret19v) = true → True) ∧ (((decide ((0 : Int) < ret12v)) && ret19v) = true → True) ∧ (((decide ((0 : Int) < ret12v)) && ret19v) = true → True) ∧ (((decide ((0 : Int) < ret12v)) && ret19v) = true → InR ((l.length : Int) - (1 : Int))) ∧ (((decide ((0 : Int) < ret12v)) && ret19v) = true → (0 ≤ ret12v ∧ ret12v ≤ ((l.length : Int) - (1 : Int)) ∧ ((l.length : Int) - (1 : Int)) ≤ (l.length : Int))) ∧ True)) (st' := (⟨30, [(21, [], .v (.c (.p .bool ((decide ((0 : Int) < ret12v)) && ret19v)))), (27, [(21, true)], .v (.c (.p (.sl (.int .i64)) ((l.take (((l.length : Int) - (1 : Int))).toNat).drop (ret12v).toNat))))], []⟩ : St)) (by kernel_rfl) ⟨trivial, trivial, (fun _ => trivial), (fun _ => trivial), (fun _ => trivial), (fun _ => trivial), o1, o2, trivial⟩ ?_
    refine awl_callk (p := [(21, true)]) (l := [toV1 (.sl (.int .i64)) ((l.take (((l.length : Int) - (1 : Int))).toNat).drop (ret12v).toNat)]) (cl := []) false [.d (.sl (.int .i64))] [21, 28] [] (fun (ret28v : Bool) => K (((decide ((0 : Int) < ret12v)) && ret19v) && ret28v)) (fun ret28v => [toV1 .bool ret28v]) (fun ret28v => (⟨30, [(21, [], .v (.c (.p .bool ((decide ((0 : Int) < ret12v)) && ret19v)))), (28, [(21, true)], .v (.c (.p .bool ret28v)))], []⟩ : St)) (by kernel_rfl) rfl (by kernel_rfl) rfl (by kernel_rfl) Try.call31 (by kernel_rfl) (fun ret28v => by kernel_rfl) (fun e => by cases e) (fun hg => hR ((l.take (((l.length : Int) - (1 : Int))).toNat).drop (ret12v).toNat) _ (by have := gcall_T h (show ((decide ((0 : Int) < ret12v)) && ret19v) = true from hg); exact this)) (fun hg => ⟨false, by have := gcall_F h (show ((decide ((0 : Int) < ret12v)) && ret19v) = false from hg); exact this⟩) (fun ret28v h => ?_)
    have h : K (((decide ((0 : Int) < ret12v)) && ret19v) && ret28v) := h
    refine awl_runp 2 [2] [] (ob := (True ∧ True ∧ True)) (st' := (⟨30, [(2, [], .v (.c (.p .bool (((decide ((0 : Int) < ret12v)) && ret19v) && ret28v))))], []⟩ : St)) (by kernel_rfl) ⟨trivial, trivial, trivial⟩ ?_
    refine awl_nil ?_
    refine thenQ_n ?_
    refine aw_ret ?_
    exact retQ_r (σ := Bool) (R := (fun y => [toV1 .bool y])) (ob := (True ∧ True)) (((decide ((0 : Int) < ret12v)) && ret19v) && ret28v) (by kernel_rfl) ⟨trivial, trivial⟩ h

def VC31_it : Nat → (List Int) → (Bool → Prop) → Prop
  | 0 => fun _ _ => False
  | n + 1 => fun x0 K => VC31 (VC31_it n) x0 K

def VCr31 (x0 : (List Int)) (K : Bool → Prop) : Prop := ∃ n, VC31_it n x0 K

theorem linki31 : ∀ (n : Nat) (x0 : (List Int)) (K : Bool → Prop), VC31_it n x0 K → ACalls Try.prog 31 [toV1 (.sl (.int .i64)) x0] (fun res => ∃ y, res = (fun y => [toV1 .bool y]) y ∧ K y)
  | 0, _, _, h => False.elim h
  | n + 1, x0, K, h => link31 (VC31_it n) (linki31 n) x0 K h

theorem linkr31 (x0 : (List Int)) (K : Bool → Prop) (h : VCr31 x0 K) : ACalls Try.prog 31 [toV1 (.sl (.int .i64)) x0] (fun res => ∃ y, res = (fun y => [toV1 .bool y]) y ∧ K y) := by
  obtain ⟨n, h⟩ := h
  exact linki31 n x0 K h

-- coppicer/climb.Read$2
def VC60 (top : Int) (K : Bool → Prop) : Prop :=
  K (decide (top = (-1 : Int)))

set_option maxHeartbeats 4000000 in
theorem link60 (top : Int) (K : Bool → Prop) (h : VC60 top K) : ACalls Try.prog 60 [toV1 (.int .i64) top] (fun res => ∃ y, res = (fun y => [toV1 .bool y]) y ∧ K y) := by
  refine acalls_of_aw [.bool] [.t 2] Try.func60 rfl rfl rfl ?_
  unfold VC60 at h
  refine aw_seq ?_
  refine aw_region ?_
  refine awl_runp 1 [0] [] (ob := (True ∧ True)) (st' := (⟨5, [(0, [], .v (.c (.p (.int .i64) top)))], []⟩ : St)) (by kernel_rfl) ⟨trivial, trivial⟩ ?_
  refine awl_nil ?_
  refine thenQ_n ?_
  refine aw_seq ?_
  refine aw_region ?_
  refine awl_runp 3 [2] [] (ob := (True ∧ True ∧ True ∧ True)) (st' := (⟨5, [(2, [], .v (.c (.p .bool (decide (top = (-1 : Int))))))], []⟩ : St)) (by kernel_rfl) ⟨trivial, trivial, trivial, trivial⟩ ?_
  refine awl_nil ?_
  refine thenQ_n ?_
  refine aw_ret ?_
  exact retQ_r (σ := Bool) (R := (fun y => [toV1 .bool y])) (ob := (True ∧ True)) (decide (top = (-1 : Int))) (by kernel_rfl) ⟨trivial, trivial⟩ h

-- coppicer/climb.Read$3
def VC61 (top : Int) (a1 : (List (Int × Bool))) (a2 : Int) (K : Bool → Prop) : Prop :=
  gcall (α := Bool) (!(decide (top = (-1 : Int)))) (VC55 a1 top a2) false (fun (ret11v : Bool) => K ((decide (top = (-1 : Int))) || (!ret11v)))

set_option maxHeartbeats 4000000 in
theorem link61 (top : Int) (a1 : (List (Int × Bool))) (a2 : Int) (K : Bool → Prop) (h : VC61 top a1 a2 K) : ACalls Try.prog 61 [toV1 (.int .i64) top, .c (.ad (.sl (.pr (.int .i64) .bool)) a1), .c (.ad (.int .i64) a2)] (fun res => ∃ y, res = (fun y => [toV1 .bool y]) y ∧ K y) := by
  refine acalls_of_aw [.bool] [.t 4] Try.func61 rfl rfl rfl ?_
  unfold VC61 at h
  refine aw_seq ?_
  refine aw_region ?_
  refine awl_runp 1 [0, 1, 2] [] (ob := (True ∧ True)) (st' := (⟨14, [(0, [], .v (.c (.p (.int .i64) top))), (1, [], .v (.c (.ad (.sl (.pr (.int .i64) .bool)) a1))), (2, [], .v (.c (.ad (.int .i64) a2)))], []⟩ : St)) (by kernel_rfl) ⟨trivial, trivial⟩ ?_
  refine awl_nil ?_
  refine thenQ_n ?_
  refine aw_seq ?_
  refine aw_region ?_
  refine awl_runp 6 [7, 8, 9, 10] [] (ob := (True ∧ True ∧ True ∧ ((decide (top = (-1 : Int))) = false → True) ∧ ((decide (top = (-1 : Int))) = false → True) ∧ ((decide (top = (-1 : Int))) = false → True) ∧ True)) (st' := (⟨14, [(7, [], .v (.c (.p .bool (decide (top = (-1 : Int)))))), (8, [(7, false)], .v (.c (.p (.sl (.pr (.int .i64) .bool)) a1))), (9, [(7, false)], .v (.c (.p (.int .i64) top))), (10, [(7, false)], .v (.c (.p (.int .i64) a2)))], []⟩ : St)) (by kernel_rfl) ⟨trivial, trivial, trivial, (fun _ => trivial), (fun _ => trivial), (fun _ => trivial), trivial⟩ ?_
  refine awl_callk (p := [(7, false)]) (l := [toV1 (.sl (.pr (.int .i64) .bool)) a1, toV1 (.int .i64) top, toV1 (.int .i64) a2]) (cl := []) false [.d (.sl (.pr (.int .i64) .bool)), .d (.int .i64), .d (.int .i64)] [7, 11] [] (fun (ret11v : Bool) => K ((decide (top = (-1 : Int))) || (!ret11v))) (fun ret11v => [toV1 .bool ret11v]) (fun ret11v => (⟨14, [(7, [], .v (.c (.p .bool (decide (top = (-1 : Int)))))), (11, [(7, false)], .v (.c (.p .bool ret11v)))], []⟩ : St)) (by kernel_rfl) rfl (by kernel_rfl) rfl (by kernel_rfl) Try.call55 (by kernel_rfl) (fun ret11v => by kernel_rfl) (fun e => by cases e) (fun hg => link55 a1 top a2 _ (by have := gcall_T h (show (!(decide (top = (-1 : Int)))) = true from hg); exact this)) (fun hg => ⟨false, by have := gcall_F h (show (!(decide (top = (-1 : Int)))) = false from hg); exact this⟩) (fun ret11v h => ?_)
  have h : K ((decide (top = (-1 : Int))) || (!ret11v)) := h
  refine awl_runp 3 [4] [] (ob := (((decide (top = (-1 : Int))) = false → True) ∧ True ∧ True ∧ True)) (st' := (⟨14, [(4, [], .v (.c (.p .bool ((decide (top = (-1 : Int))) || (!ret11v)))))], []⟩ : St)) (by kernel_rfl) ⟨(fun _ => trivial), trivial, trivial, trivial⟩ ?_
  refine awl_nil ?_
  refine thenQ_n ?_
  refine aw_ret ?_
  exact retQ_r (σ := Bool) (R := (fun y => [toV1 .bool y])) (ob := (True ∧ True)) ((decide (top = (-1 : Int))) || (!ret11v)) (by kernel_rfl) ⟨trivial, trivial⟩ h

-- coppicer/climb.Read$4
def VC62 (top : Int) (K : Bool → Prop) : Prop :=
  K (decide (top = (-1 : Int)))

set_option maxHeartbeats 4000000 in
theorem link62 (top : Int) (K : Bool → Prop) (h : VC62 top K) : ACalls Try.prog 62 [toV1 (.int .i64) top] (fun res => ∃ y, res = (fun y => [toV1 .bool y]) y ∧ K y) := by
  refine acalls_of_aw [.bool] [.t 2] Try.func62 rfl rfl rfl ?_
  unfold VC62 at h
  refine aw_seq ?_
  refine aw_region ?_
  refine awl_runp 1 [0] [] (ob := (True ∧ True)) (st' := (⟨5, [(0, [], .v (.c (.p (.int .i64) top)))], []⟩ : St)) (by kernel_rfl) ⟨trivial, trivial⟩ ?_
  refine awl_nil ?_
  refine thenQ_n ?_
  refine aw_seq ?_
  refine aw_region ?_
  refine awl_runp 3 [2] [] (ob := (True ∧ True ∧ True ∧ True)) (st' := (⟨5, [(2, [], .v (.c (.p .bool (decide (top = (-1 : Int))))))], []⟩ : St)) (by kernel_rfl) ⟨trivial, trivial, trivial, trivial⟩ ?_
  refine awl_nil ?_
  refine thenQ_n ?_
  refine aw_ret ?_
  exact retQ_r (σ := Bool) (R := (fun y => [toV1 .bool y])) (ob := (True ∧ True)) (decide (top = (-1 : Int))) (by kernel_rfl) ⟨trivial, trivial⟩ h

end Dec
