/-
  Printed by dec2.py: of each function its plain demand, and that the demand gives the contract.
-/
import Derived.Test.YtfamoglamihdfaaProg
import Derived.Test.YtfamoglamihdfaaDecRc
import Derived.Test.YtfamoglamihdfaaGenSuma
set_option linter.unusedVariables false
set_option linter.unusedSimpArgs false
set_option maxRecDepth 100000
namespace Dec
open Go Go.RowKit Go.Proofs

-- coppicer/thicket.Sorted$1
def VC68 (k : Int) (a1 : Int) (K : Bool → Prop) : Prop :=
  K ((decide (k < (0 : Int))) || (decide (a1 ≤ k)))

set_option maxHeartbeats 4000000 in
theorem link68 (k : Int) (a1 : Int) (K : Bool → Prop) (h : VC68 k a1 K) : ACalls Try.prog 68 [toV1 (.int .i64) k, .c (.ad (.int .i64) a1)] (fun res => ∃ y, res = (fun y => [toV1 .bool y]) y ∧ K y) := by
  refine acalls_of_aw [.bool] [.t 3] Try.func68 rfl rfl rfl ?_
  unfold VC68 at h
  refine aw_seq ?_
  refine aw_region ?_
  refine awl_runp 1 [0, 1] [] (ob := (True ∧ True)) (st' := (⟨11, [(0, [], .v (.c (.p (.int .i64) k))), (1, [], .v (.c (.ad (.int .i64) a1)))], []⟩ : St)) (by kernel_rfl) ⟨trivial, trivial⟩ ?_
  refine awl_nil ?_
  refine thenQ_n ?_
  refine aw_seq ?_
  refine aw_region ?_
  refine awl_runp 8 [3] [] (ob := (True ∧ True ∧ True ∧ ((decide (k < (0 : Int))) = false → True) ∧ ((decide (k < (0 : Int))) = false → True) ∧ ((decide (k < (0 : Int))) = false → True) ∧ True ∧ True ∧ True)) (st' := (⟨11, [(3, [], .v (.c (.p .bool ((decide (k < (0 : Int))) || (decide (a1 ≤ k))))))], []⟩ : St)) (by kernel_rfl) ⟨trivial, trivial, trivial, (fun _ => trivial), (fun _ => trivial), (fun _ => trivial), trivial, trivial, trivial⟩ ?_
  refine awl_nil ?_
  refine thenQ_n ?_
  refine aw_ret ?_
  exact retQ_r (σ := Bool) (R := (fun y => [toV1 .bool y])) (ob := (True ∧ True)) ((decide (k < (0 : Int))) || (decide (a1 ≤ k))) (by kernel_rfl) ⟨trivial, trivial⟩ h

-- slices.IndexFunc[[]int,int]
def VC71_k1 (K : Int → Prop) : Prop :=
  K (-1 : Int)

def VC71_l1 (sv : (List Int)) (F1 : Int → (Bool → Prop) → Prop) (K : Int → Prop) (v8 : Int) (X1 : Int → Prop) : Prop :=
  (((decide (v8 < (sv.length : Int))) = true → (inIdx v8 sv.length ∧ F1 (sv.getD (v8).toNat (0 : Int)) (fun (ret16v : Bool) => ((ret16v = true → K v8) ∧ (ret16v = false → (InR (v8 + (1 : Int)) ∧ X1 (v8 + (1 : Int)))))))) ∧ ((decide (v8 < (sv.length : Int))) = false → VC71_k1 K))

def VC71 (sv : (List Int)) (F1 : Int → (Bool → Prop) → Prop) (K : Int → Prop) : Prop :=
  Loop (σ := Int) (fun s X => VC71_l1 sv F1 K s X) (0 : Int)

set_option maxHeartbeats 4000000 in
theorem link71 (sv : (List Int)) (fv1 : FuncId) (cv1 : List Dat) (F1 : Int → (Bool → Prop) → Prop) (hF1 : FnIs Try.prog fv1 cv1 (fun (x : Int) => [toV1 (.int .i64) x]) (fun (y : Bool) => [toV1 .bool y]) F1) (K : Int → Prop) (h : VC71 sv F1 K) : ACalls Try.prog 71 [toV1 (.sl (.int .i64)) sv, .c (.fn fv1 cv1)] (fun res => ∃ y, res = (fun y => [toV1 (.int .i64) y]) y ∧ K y) := by
  refine acalls_of_aw [(.int .i64)] [.t 4] Try.func71 rfl rfl rfl ?_
  unfold VC71 at h
  refine aw_seq ?_
  refine aw_region ?_
  refine awl_runp 1 [0, 1] [] (ob := (True ∧ True)) (st' := (⟨19, [(0, [], .v (.c (.p (.sl (.int .i64)) sv))), (1, [], .v (.c (.fn fv1 cv1)))], []⟩ : St)) (by kernel_rfl) ⟨trivial, trivial⟩ ?_
  refine awl_nil ?_
  refine thenQ_n ?_
  refine aw_seq ?_
  refine aw_seq ?_
  refine aw_region ?_
  refine awl_runp 3 [0, 1, 7, 8] [] (ob := (True ∧ True ∧ True ∧ True)) (st' := (⟨19, [(0, [], .v (.c (.p (.sl (.int .i64)) sv))), (1, [], .v (.c (.fn fv1 cv1))), (7, [], .v (.c (.p (.int .i64) (sv.length : Int)))), (8, [], .v (.c (.p (.int .i64) (0 : Int))))], []⟩ : St)) (by kernel_rfl) ⟨trivial, trivial, trivial, trivial⟩ ?_
  refine awl_nil ?_
  refine thenQ_n ?_
  refine withJoin (σ := Unit) (fun s => (⟨19, [], []⟩ : St)) (fun s => VC71_k1 K) (fun s h => ?_) (fun rest1 => ?_)
  · have h : VC71_k1 K := h
    unfold VC71_k1 at h
    refine thenQ_n ?_
    refine aw_seq ?_
    refine aw_region ?_
    refine awl_runp 1 [4] [] (ob := (True ∧ True)) (st' := (⟨19, [(4, [], .v (.c (.p (.int .i64) (-1 : Int))))], []⟩ : St)) (by kernel_rfl) ⟨trivial, trivial⟩ ?_
    refine awl_nil ?_
    refine thenQ_n ?_
    refine aw_ret ?_
    exact retQ_r (σ := Int) (R := (fun y => [toV1 (.int .i64) y])) (ob := (True ∧ True)) (-1 : Int) (by kernel_rfl) ⟨trivial, trivial⟩ h
  · refine aw_block ?_
    refine aw_loop (σ := Int) (fun s => (⟨19, [(0, [], .v (.c (.p (.sl (.int .i64)) sv))), (1, [], .v (.c (.fn fv1 cv1))), (7, [], .v (.c (.p (.int .i64) (sv.length : Int)))), (8, [], .v (.c (.p (.int .i64) s)))], []⟩ : St)) (fun s X => VC71_l1 sv F1 K s X) (s0 := (0 : Int)) (fun v8 X1 h => ?_) h
    have h : VC71_l1 sv F1 K v8 X1 := h
    unfold VC71_l1 at h
    refine aw_seq ?_
    refine aw_region ?_
    refine awl_runp 1 [0, 1, 7, 8, 9] [] (ob := (True ∧ True)) (st' := (⟨19, [(0, [], .v (.c (.p (.sl (.int .i64)) sv))), (1, [], .v (.c (.fn fv1 cv1))), (7, [], .v (.c (.p (.int .i64) (sv.length : Int)))), (8, [], .v (.c (.p (.int .i64) v8))), (9, [], .v (.c (.p .bool (decide (v8 < (sv.length : Int))))))], []⟩ : St)) (by kernel_rfl) ⟨trivial, trivial⟩ ?_
    refine awl_nil ?_
    refine thenQ_n ?_
    refine aw_seq ?_
    refine aw_cond (b := (decide (v8 < (sv.length : Int)))) (by kernel_rfl) (fun hb => ?_) (fun hb => ?_)
    · have h := h.1 hb
      refine aw_skip ?_
      refine thenQ_n ?_
      refine aw_seq ?_
      refine aw_block ?_
      refine aw_seq ?_
      refine aw_region ?_
      refine awl_runp 2 [0, 1, 5, 7, 8] [] (ob := (True ∧ True ∧ True)) (st' := (⟨19, [(0, [], .v (.c (.p (.sl (.int .i64)) sv))), (1, [], .v (.c (.fn fv1 cv1))), (5, [], .v (.c (.p (.int .i64) v8))), (7, [], .v (.c (.p (.int .i64) (sv.length : Int)))), (8, [], .v (.c (.p (.int .i64) v8)))], []⟩ : St)) (by kernel_rfl) ⟨trivial, trivial, trivial⟩ ?_
      refine awl_nil ?_
      refine thenQ_n ?_
      refine aw_seq ?_
      refine aw_region ?_
      obtain ⟨o1, h⟩ := h
      refine awl_runp 5 [0, 1, 5, 7, 8, 11, 15] [] (ob := (True ∧ True ∧ True ∧ inIdx v8 sv.length ∧ True ∧ True)) (st' := (⟨19, [(0, [], .v (.c (.p (.sl (.int .i64)) sv))), (1, [], .v (.c (.fn fv1 cv1))), (5, [], .v (.c (.p (.int .i64) v8))), (7, [], .v (.c (.p (.int .i64) (sv.length : Int)))), (8, [], .v (.c (.p (.int .i64) v8))), (11, [], .v (.c (.fn fv1 cv1))), (15, [], .v (.c (.p (.int .i64) (sv.getD (v8).toNat (0 : Int)))))], []⟩ : St)) (by kernel_rfl) ⟨trivial, trivial, trivial, o1, trivial, trivial⟩ ?_
      refine awl_callk (p := []) (l := [toV1 (.int .i64) (sv.getD (v8).toNat (0 : Int))]) false [.d (.int .i64)] [0, 1, 5, 7, 8, 16] [] (fun (ret16v : Bool) => ((ret16v = true → K v8) ∧ (ret16v = false → (InR (v8 + (1 : Int)) ∧ X1 (v8 + (1 : Int)))))) (fun ret16v => [toV1 .bool ret16v]) (fun ret16v => (⟨19, [(0, [], .v (.c (.p (.sl (.int .i64)) sv))), (1, [], .v (.c (.fn fv1 cv1))), (5, [], .v (.c (.p (.int .i64) v8))), (7, [], .v (.c (.p (.int .i64) (sv.length : Int)))), (8, [], .v (.c (.p (.int .i64) v8))), (16, [], .v (.c (.p .bool ret16v)))], []⟩ : St)) (by kernel_rfl) rfl (by kernel_rfl) rfl (by kernel_rfl) hF1.1 (by kernel_rfl) (fun ret16v => by kernel_rfl) (fun e => by cases e) (fun hg => hF1.2 (sv.getD (v8).toNat (0 : Int)) _ h) (fun hg => noF hg) (fun ret16v h => ?_)
      have h : ((ret16v = true → K v8) ∧ (ret16v = false → (InR (v8 + (1 : Int)) ∧ X1 (v8 + (1 : Int))))) := h
      refine awl_nil ?_
      refine thenQ_n ?_
      refine aw_cond (b := ret16v) (by kernel_rfl) (fun hb => ?_) (fun hb => ?_)
      · have h := h.1 hb
        refine aw_seq ?_
        refine aw_region ?_
        refine awl_runp 2 [4] [] (ob := (True ∧ True ∧ True)) (st' := (⟨19, [(4, [], .v (.c (.p (.int .i64) v8)))], []⟩ : St)) (by kernel_rfl) ⟨trivial, trivial, trivial⟩ ?_
        refine awl_nil ?_
        refine thenQ_n ?_
        refine aw_ret ?_
        refine blockQ_r ?_
        refine thenQ_r ?_
        refine thenQ_r ?_
        refine blockQ_r ?_
        refine thenQ_r ?_
        exact retQ_r (σ := Int) (R := (fun y => [toV1 (.int .i64) y])) (ob := (True ∧ True)) v8 (by kernel_rfl) ⟨trivial, trivial⟩ h
      · have h := h.2 hb
        refine aw_skip ?_
        refine blockQ_n ?_
        refine thenQ_n ?_
        refine aw_region ?_
        obtain ⟨o1, h⟩ := h
        refine awl_runp 2 [0, 1, 7, 8] [] (ob := (InR (v8 + (1 : Int)) ∧ True ∧ True)) (st' := (⟨19, [(0, [], .v (.c (.p (.sl (.int .i64)) sv))), (1, [], .v (.c (.fn fv1 cv1))), (7, [], .v (.c (.p (.int .i64) (sv.length : Int)))), (8, [], .v (.c (.p (.int .i64) (v8 + (1 : Int)))))], []⟩ : St)) (by kernel_rfl) ⟨o1, trivial, trivial⟩ ?_
        refine awl_nil ?_
        exact thenQ_n ⟨(v8 + (1 : Int)), rfl, h⟩
    · have h := h.2 hb
      refine aw_conv [.prune [] []] (st' := (⟨19, [], []⟩ : St)) (by kernel_rfl) ?_
      refine aw_exit ?_
      refine thenQ_x ?_
      refine thenQ_x ?_
      refine blockQ_hit ?_
      exact rest1 () h

-- slices.ContainsFunc[[]int,int]
def VC48 (sv : (List Int)) (F1 : Int → (Bool → Prop) → Prop) (K : Bool → Prop) : Prop :=
  VC71 sv F1 (fun (ret7v : Int) => K (decide ((0 : Int) ≤ ret7v)))

set_option maxHeartbeats 4000000 in
theorem link48 (sv : (List Int)) (fv1 : FuncId) (cv1 : List Dat) (F1 : Int → (Bool → Prop) → Prop) (hF1 : FnIs Try.prog fv1 cv1 (fun (x : Int) => [toV1 (.int .i64) x]) (fun (y : Bool) => [toV1 .bool y]) F1) (K : Bool → Prop) (h : VC48 sv F1 K) : ACalls Try.prog 48 [toV1 (.sl (.int .i64)) sv, .c (.fn fv1 cv1)] (fun res => ∃ y, res = (fun y => [toV1 .bool y]) y ∧ K y) := by
  refine acalls_of_aw [.bool] [.t 4] Try.func48 rfl rfl rfl ?_
  unfold VC48 at h
  refine aw_seq ?_
  refine aw_region ?_
  refine awl_runp 1 [0, 1] [] (ob := (True ∧ True)) (st' := (⟨9, [(0, [], .v (.c (.p (.sl (.int .i64)) sv))), (1, [], .v (.c (.fn fv1 cv1)))], []⟩ : St)) (by kernel_rfl) ⟨trivial, trivial⟩ ?_
  refine awl_nil ?_
  refine thenQ_n ?_
  refine aw_seq ?_
  refine aw_region ?_
  refine awl_runp 2 [5, 6] [] (ob := (True ∧ True ∧ True)) (st' := (⟨9, [(5, [], .v (.c (.p (.sl (.int .i64)) sv))), (6, [], .v (.c (.fn fv1 cv1)))], []⟩ : St)) (by kernel_rfl) ⟨trivial, trivial, trivial⟩ ?_
  refine awl_callk (p := []) (l := [toV1 (.sl (.int .i64)) sv, .c (.fn fv1 cv1)]) (cl := []) false [.d (.sl (.int .i64)), .fn] [7] [] (fun (ret7v : Int) => K (decide ((0 : Int) ≤ ret7v))) (fun ret7v => [toV1 (.int .i64) ret7v]) (fun ret7v => (⟨9, [(7, [], .v (.c (.p (.int .i64) ret7v)))], []⟩ : St)) (by kernel_rfl) rfl (by kernel_rfl) rfl (by kernel_rfl) Try.call71 (by kernel_rfl) (fun ret7v => by kernel_rfl) (fun e => by cases e) (fun hg => link71 sv fv1 cv1 F1 hF1 _ h) (fun hg => noF hg) (fun ret7v h => ?_)
  have h : K (decide ((0 : Int) ≤ ret7v)) := h
  refine awl_runp 2 [4] [] (ob := (True ∧ True ∧ True)) (st' := (⟨9, [(4, [], .v (.c (.p .bool (decide ((0 : Int) ≤ ret7v)))))], []⟩ : St)) (by kernel_rfl) ⟨trivial, trivial, trivial⟩ ?_
  refine awl_nil ?_
  refine thenQ_n ?_
  refine aw_ret ?_
  exact retQ_r (σ := Bool) (R := (fun y => [toV1 .bool y])) (ob := (True ∧ True)) (decide ((0 : Int) ≤ ret7v)) (by kernel_rfl) ⟨trivial, trivial⟩ h

-- coppicer/thicket.Sorted$2
def VCc69_k1 (i : Int) (K : Bool × (List Int) × (List Int) → Prop) (l40001 : (List Int)) (l40004 : (List Int)) : Prop :=
  (inIdx i l40001.length ∧ (roomN (l40004.length + [i].length) ∧ K (true, (l40001.set ((i).toNat) (2 : Int)), (l40004 ++ [i]))))

def VCc69_k2 (v29 : Int) (X1 : Int × (List Int) × (List Int) → Prop) (l400012 : (List Int)) (l400042 : (List Int)) : Prop :=
  (InR (v29 + (1 : Int)) ∧ X1 ((v29 + (1 : Int)), l400012, l400042))

def VCc69_k3 (q0 : ((List (Int × (Int × (Int × (List (List Int)))))) × Int)) (i : Int) (K : Bool × (List Int) × (List Int) → Prop) (v29 : Int) (X1 : Int × (List Int) × (List Int) → Prop) (v4 : Int) (l400012 : (List Int)) (l400042 : (List Int)) : Prop :=
  ((((decide ((0 : Int) < ((((q0.1.getD (i).toNat ((0 : Int), ((0 : Int), ((0 : Int), ([] : (List (List Int))))))).2.2.2).getD (v29).toNat ([] : (List Int))).length : Int))) && (decide ((0 : Int) ≤ v4))) = true → K (false, l400012, l400042)) ∧ (((decide ((0 : Int) < ((((q0.1.getD (i).toNat ((0 : Int), ((0 : Int), ((0 : Int), ([] : (List (List Int))))))).2.2.2).getD (v29).toNat ([] : (List Int))).length : Int))) && (decide ((0 : Int) ≤ v4))) = false → VCc69_k2 v29 X1 l400012 l400042))

def VCc69_k4 (q0 : ((List (Int × (Int × (Int × (List (List Int)))))) × Int)) (i : Int) (K : Bool × (List Int) × (List Int) → Prop) (v29 : Int) (X1 : Int × (List Int) × (List Int) → Prop) (l400012 : (List Int)) (l400042 : (List Int)) : Prop :=
  VCc69_k3 q0 i K v29 X1 (-1 : Int) l400012 l400042

def VCc69_l2 (q0 : ((List (Int × (Int × (Int × (List (List Int)))))) × Int)) (R : Int → (List Int) → (List Int) → (Bool × (List Int) × (List Int) → Prop) → Prop) (i : Int) (K : Bool × (List Int) × (List Int) → Prop) (v29 : Int) (X1 : Int × (List Int) × (List Int) → Prop) (v8 : Int) (l400012 : (List Int)) (l400042 : (List Int)) (X2 : Int × (List Int) × (List Int) → Prop) : Prop :=
  (((decide (v8 < (((((q0.1.getD (i).toNat ((0 : Int), ((0 : Int), ((0 : Int), ([] : (List (List Int))))))).2.2.2).getD (v29).toNat ([] : (List Int))).drop ((1 : Int)).toNat).length : Int))) = true → (inIdx v8 ((((q0.1.getD (i).toNat ((0 : Int), ((0 : Int), ((0 : Int), ([] : (List (List Int))))))).2.2.2).getD (v29).toNat ([] : (List Int))).drop ((1 : Int)).toNat).length ∧ R (((((q0.1.getD (i).toNat ((0 : Int), ((0 : Int), ((0 : Int), ([] : (List (List Int))))))).2.2.2).getD (v29).toNat ([] : (List Int))).drop ((1 : Int)).toNat).getD (v8).toNat (0 : Int)) l400012 l400042 (fun (ret6v : Bool × (List Int) × (List Int)) => (((!ret6v.1) = true → VCc69_k3 q0 i K v29 X1 v8 ret6v.2.1 ret6v.2.2) ∧ ((!ret6v.1) = false → (InR (v8 + (1 : Int)) ∧ X2 ((v8 + (1 : Int)), ret6v.2.1, ret6v.2.2))))))) ∧ ((decide (v8 < (((((q0.1.getD (i).toNat ((0 : Int), ((0 : Int), ((0 : Int), ([] : (List (List Int))))))).2.2.2).getD (v29).toNat ([] : (List Int))).drop ((1 : Int)).toNat).length : Int))) = false → VCc69_k4 q0 i K v29 X1 l400012 l400042))

def VCc69_l1 (q0 : ((List (Int × (Int × (Int × (List (List Int)))))) × Int)) (R : Int → (List Int) → (List Int) → (Bool × (List Int) × (List Int) → Prop) → Prop) (i : Int) (K : Bool × (List Int) × (List Int) → Prop) (v29 : Int) (l40001 : (List Int)) (l40004 : (List Int)) (X1 : Int × (List Int) × (List Int) → Prop) : Prop :=
  (((decide (v29 < (((q0.1.getD (i).toNat ((0 : Int), ((0 : Int), ((0 : Int), ([] : (List (List Int))))))).2.2.2).length : Int))) = true → (inIdx v29 ((q0.1.getD (i).toNat ((0 : Int), ((0 : Int), ((0 : Int), ([] : (List (List Int))))))).2.2.2).length ∧ (((decide ((0 : Int) < ((((q0.1.getD (i).toNat ((0 : Int), ((0 : Int), ((0 : Int), ([] : (List (List Int))))))).2.2.2).getD (v29).toNat ([] : (List Int))).length : Int))) = true → (0 ≤ (1 : Int) ∧ (1 : Int) ≤ ((((q0.1.getD (i).toNat ((0 : Int), ((0 : Int), ((0 : Int), ([] : (List (List Int))))))).2.2.2).getD (v29).toNat ([] : (List Int))).length : Int))) ∧ (((decide ((0 : Int) < ((((q0.1.getD (i).toNat ((0 : Int), ((0 : Int), ((0 : Int), ([] : (List (List Int))))))).2.2.2).getD (v29).toNat ([] : (List Int))).length : Int))) = true → Loop (σ := Int × (List Int) × (List Int)) (fun s X => VCc69_l2 q0 R i K v29 X1 s.1 s.2.1 s.2.2 X) ((0 : Int), l40001, l40004)) ∧ ((decide ((0 : Int) < ((((q0.1.getD (i).toNat ((0 : Int), ((0 : Int), ((0 : Int), ([] : (List (List Int))))))).2.2.2).getD (v29).toNat ([] : (List Int))).length : Int))) = false → ((((decide ((0 : Int) < ((((q0.1.getD (i).toNat ((0 : Int), ((0 : Int), ((0 : Int), ([] : (List (List Int))))))).2.2.2).getD (v29).toNat ([] : (List Int))).length : Int))) && false) = true → K (false, l40001, l40004)) ∧ (((decide ((0 : Int) < ((((q0.1.getD (i).toNat ((0 : Int), ((0 : Int), ((0 : Int), ([] : (List (List Int))))))).2.2.2).getD (v29).toNat ([] : (List Int))).length : Int))) && false) = false → VCc69_k2 v29 X1 l40001 l40004))))))) ∧ ((decide (v29 < (((q0.1.getD (i).toNat ((0 : Int), ((0 : Int), ((0 : Int), ([] : (List (List Int))))))).2.2.2).length : Int))) = false → VCc69_k1 i K l40001 l40004))

def VCc69 (q0 : ((List (Int × (Int × (Int × (List (List Int)))))) × Int)) (R : Int → (List Int) → (List Int) → (Bool × (List Int) × (List Int) → Prop) → Prop) (i : Int) (c0 : (List Int)) (c1 : (List Int)) (K : Bool × (List Int) × (List Int) → Prop) : Prop :=
  (inIdx i c0.length ∧ (((decide ((0 : Int) < (c0.getD ((i).toNat) (0 : Int)))) = true → (inIdx i c0.length ∧ K ((decide ((c0.getD ((i).toNat) (0 : Int)) = (2 : Int))), c0, c1))) ∧ ((decide ((0 : Int) < (c0.getD ((i).toNat) (0 : Int)))) = false → (inIdx i c0.length ∧ (inIdx i q0.1.length ∧ Loop (σ := Int × (List Int) × (List Int)) (fun s X => VCc69_l1 q0 R i K s.1 s.2.1 s.2.2 X) ((0 : Int), (c0.set ((i).toNat) (1 : Int)), c1))))))

set_option maxHeartbeats 4000000 in
theorem linkc69 (q0 : ((List (Int × (Int × (Int × (List (List Int)))))) × Int)) (R : Int → (List Int) → (List Int) → (Bool × (List Int) × (List Int) → Prop) → Prop) (hR : ∀ (i : Int) (c0 : (List Int)) (c1 : (List Int)) (K : Bool × (List Int) × (List Int) → Prop), R i c0 c1 K → LCalls Try.prog 69 [40000, 40001, 40002, 40003, 40004] [40000, 40002, 40003] [(40000, [], .box [.own 40001]), (40001, [], .arr 3 (.int .i64) c0), (40002, [], .box [.cl 69 [.pt 40000 0, .ad ⟨(.pr (.sl (.pr (.int .i64) (.pr (.int .i64) (.pr (.int .i64) (.sl (.sl (.int .i64))))))) (.int .i64)), q0⟩, .pt 40002 0, .pt 40003 0]]), (40003, [], .box [.own 40004]), (40004, [], .arr 3 (.int .i64) c1)] [.c (.p (.int .i64) i), .c (.ptr 40000 0), .c (.ad (.pr (.sl (.pr (.int .i64) (.pr (.int .i64) (.pr (.int .i64) (.sl (.sl (.int .i64))))))) (.int .i64)) q0), .c (.ptr 40002 0), .c (.ptr 40003 0)] (fun av hp' => ∃ y : Bool × (List Int) × (List Int), av = .v (.c (.p .bool y.1)) ∧ hp' = [(40000, [], .box [.own 40001]), (40001, [], .arr 3 (.int .i64) y.2.1), (40002, [], .box [.cl 69 [.pt 40000 0, .ad ⟨(.pr (.sl (.pr (.int .i64) (.pr (.int .i64) (.pr (.int .i64) (.sl (.sl (.int .i64))))))) (.int .i64)), q0⟩, .pt 40002 0, .pt 40003 0]]), (40003, [], .box [.own 40004]), (40004, [], .arr 3 (.int .i64) y.2.2)] ∧ K y)) (i : Int) (c0 : (List Int)) (c1 : (List Int)) (K : Bool × (List Int) × (List Int) → Prop) (h : VCc69 q0 R i c0 c1 K) : LCalls Try.prog 69 [40000, 40001, 40002, 40003, 40004] [40000, 40002, 40003] [(40000, [], .box [.own 40001]), (40001, [], .arr 3 (.int .i64) c0), (40002, [], .box [.cl 69 [.pt 40000 0, .ad ⟨(.pr (.sl (.pr (.int .i64) (.pr (.int .i64) (.pr (.int .i64) (.sl (.sl (.int .i64))))))) (.int .i64)), q0⟩, .pt 40002 0, .pt 40003 0]]), (40003, [], .box [.own 40004]), (40004, [], .arr 3 (.int .i64) c1)] [.c (.p (.int .i64) i), .c (.ptr 40000 0), .c (.ad (.pr (.sl (.pr (.int .i64) (.pr (.int .i64) (.pr (.int .i64) (.sl (.sl (.int .i64))))))) (.int .i64)) q0), .c (.ptr 40002 0), .c (.ptr 40003 0)] (fun av hp' => ∃ y : Bool × (List Int) × (List Int), av = .v (.c (.p .bool y.1)) ∧ hp' = [(40000, [], .box [.own 40001]), (40001, [], .arr 3 (.int .i64) y.2.1), (40002, [], .box [.cl 69 [.pt 40000 0, .ad ⟨(.pr (.sl (.pr (.int .i64) (.pr (.int .i64) (.pr (.int .i64) (.sl (.sl (.int .i64))))))) (.int .i64)), q0⟩, .pt 40002 0, .pt 40003 0]]), (40003, [], .box [.own 40004]), (40004, [], .arr 3 (.int .i64) y.2.2)] ∧ K y) := by
  refine lcalls_of_aw [40000, 40001, 40002, 40003, 40004] [40000, 40002, 40003] [6] Try.func69 rfl rfl (by kernel_rfl) (by kernel_rfl) (by kernel_rfl) ?_
  refine aw_conv [] (st' := (⟨50, [(0, [], .v (.c (.p (.int .i64) i))), (1, [], .v (.c (.ptr 40000 0))), (2, [], .v (.c (.ad (.pr (.sl (.pr (.int .i64) (.pr (.int .i64) (.pr (.int .i64) (.sl (.sl (.int .i64))))))) (.int .i64)) q0))), (3, [], .v (.c (.ptr 40002 0))), (4, [], .v (.c (.ptr 40003 0))), (50, [], .v (.c (.ptr 40000 0))), (51, [], .v (.c (.ptr 40002 0))), (52, [], .v (.c (.ptr 40003 0)))], [(40000, [], .box [.own 40001]), (40001, [], .arr 3 (.int .i64) c0), (40002, [], .box [.cl 69 [.pt 40000 0, .ad ⟨(.pr (.sl (.pr (.int .i64) (.pr (.int .i64) (.pr (.int .i64) (.sl (.sl (.int .i64))))))) (.int .i64)), q0⟩, .pt 40002 0, .pt 40003 0]]), (40003, [], .box [.own 40004]), (40004, [], .arr 3 (.int .i64) c1)]⟩ : St)) (by kernel_rfl) ?_
  unfold VCc69 at h
  refine aw_seq ?_
  refine aw_region ?_
  refine awl_runp 1 [0, 1, 2, 3, 4, 50, 51, 52] [40000, 40001, 40002, 40003, 40004] (ob := (True ∧ True)) (st' := (⟨50, [(0, [], .v (.c (.p (.int .i64) i))), (1, [], .v (.c (.ptr 40000 0))), (2, [], .v (.c (.ad (.pr (.sl (.pr (.int .i64) (.pr (.int .i64) (.pr (.int .i64) (.sl (.sl (.int .i64))))))) (.int .i64)) q0))), (3, [], .v (.c (.ptr 40002 0))), (4, [], .v (.c (.ptr 40003 0))), (50, [], .v (.c (.ptr 40000 0))), (51, [], .v (.c (.ptr 40002 0))), (52, [], .v (.c (.ptr 40003 0)))], [(40000, [], .box [.own 40001]), (40001, [], .arr 3 (.int .i64) c0), (40002, [], .box [.cl 69 [.pt 40000 0, .ad ⟨(.pr (.sl (.pr (.int .i64) (.pr (.int .i64) (.pr (.int .i64) (.sl (.sl (.int .i64))))))) (.int .i64)), q0⟩, .pt 40002 0, .pt 40003 0]]), (40003, [], .box [.own 40004]), (40004, [], .arr 3 (.int .i64) c1)]⟩ : St)) (by kernel_rfl) ⟨trivial, trivial⟩ ?_
  refine awl_nil ?_
  refine thenQ_n ?_
  refine aw_seq ?_
  refine aw_seq ?_
  refine aw_region ?_
  obtain ⟨o1, h⟩ := h
  refine awl_runp 5 [0, 1, 2, 3, 4, 13, 50, 51, 52] [40000, 40001, 40002, 40003, 40004] (ob := (True ∧ True ∧ inIdx i c0.length ∧ True ∧ True ∧ True)) (st' := (⟨50, [(0, [], .v (.c (.p (.int .i64) i))), (1, [], .v (.c (.ptr 40000 0))), (2, [], .v (.c (.ad (.pr (.sl (.pr (.int .i64) (.pr (.int .i64) (.pr (.int .i64) (.sl (.sl (.int .i64))))))) (.int .i64)) q0))), (3, [], .v (.c (.ptr 40002 0))), (4, [], .v (.c (.ptr 40003 0))), (13, [], .v (.c (.p .bool (decide ((0 : Int) < (c0.getD ((i).toNat) (0 : Int))))))), (50, [], .v (.c (.ptr 40000 0))), (51, [], .v (.c (.ptr 40002 0))), (52, [], .v (.c (.ptr 40003 0)))], [(40000, [], .box [.own 40001]), (40001, [], .arr 3 (.int .i64) c0), (40002, [], .box [.cl 69 [.pt 40000 0, .ad ⟨(.pr (.sl (.pr (.int .i64) (.pr (.int .i64) (.pr (.int .i64) (.sl (.sl (.int .i64))))))) (.int .i64)), q0⟩, .pt 40002 0, .pt 40003 0]]), (40003, [], .box [.own 40004]), (40004, [], .arr 3 (.int .i64) c1)]⟩ : St)) (by kernel_rfl) ⟨trivial, trivial, o1, trivial, trivial, trivial⟩ ?_
  refine awl_nil ?_
  refine thenQ_n ?_
  refine aw_cond (b := (decide ((0 : Int) < (c0.getD ((i).toNat) (0 : Int))))) (by kernel_rfl) (fun hb => ?_) (fun hb => ?_)
  · have h := h.1 hb
    refine aw_seq ?_
    refine aw_region ?_
    obtain ⟨o1, h⟩ := h
    refine awl_runp 6 [6, 50, 51, 52] [40000, 40001, 40002, 40003, 40004] (ob := (True ∧ True ∧ inIdx i c0.length ∧ True ∧ True ∧ True ∧ True)) (st' := (⟨50, [(6, [], .v (.c (.p .bool (decide ((c0.getD ((i).toNat) (0 : Int)) = (2 : Int)))))), (50, [], .v (.c (.ptr 40000 0))), (51, [], .v (.c (.ptr 40002 0))), (52, [], .v (.c (.ptr 40003 0)))], [(40000, [], .box [.own 40001]), (40001, [], .arr 3 (.int .i64) c0), (40002, [], .box [.cl 69 [.pt 40000 0, .ad ⟨(.pr (.sl (.pr (.int .i64) (.pr (.int .i64) (.pr (.int .i64) (.sl (.sl (.int .i64))))))) (.int .i64)), q0⟩, .pt 40002 0, .pt 40003 0]]), (40003, [], .box [.own 40004]), (40004, [], .arr 3 (.int .i64) c1)]⟩ : St)) (by kernel_rfl) ⟨trivial, trivial, o1, trivial, trivial, trivial, trivial⟩ ?_
    refine awl_nil ?_
    refine thenQ_n ?_
    refine aw_conv [.prune [6, 50, 51, 52] [40000, 40001, 40002, 40003, 40004]] (st' := (⟨50, [(6, [], .v (.c (.p .bool (decide ((c0.getD ((i).toNat) (0 : Int)) = (2 : Int)))))), (50, [], .v (.c (.ptr 40000 0))), (51, [], .v (.c (.ptr 40002 0))), (52, [], .v (.c (.ptr 40003 0)))], [(40000, [], .box [.own 40001]), (40001, [], .arr 3 (.int .i64) c0), (40002, [], .box [.cl 69 [.pt 40000 0, .ad ⟨(.pr (.sl (.pr (.int .i64) (.pr (.int .i64) (.pr (.int .i64) (.sl (.sl (.int .i64))))))) (.int .i64)), q0⟩, .pt 40002 0, .pt 40003 0]]), (40003, [], .box [.own 40004]), (40004, [], .arr 3 (.int .i64) c1)]⟩ : St)) (by kernel_rfl) ?_
    refine aw_ret ?_
    refine thenQ_r ?_
    exact lret_r (σ := Bool × (List Int) × (List Int)) (A := fun y => .v (.c (.p .bool y.1))) (H := fun y => [(40000, [], .box [.own 40001]), (40001, [], .arr 3 (.int .i64) y.2.1), (40002, [], .box [.cl 69 [.pt 40000 0, .ad ⟨(.pr (.sl (.pr (.int .i64) (.pr (.int .i64) (.pr (.int .i64) (.sl (.sl (.int .i64))))))) (.int .i64)), q0⟩, .pt 40002 0, .pt 40003 0]]), (40003, [], .box [.own 40004]), (40004, [], .arr 3 (.int .i64) y.2.2)]) ((decide ((c0.getD ((i).toNat) (0 : Int)) = (2 : Int))), c0, c1) (by kernel_rfl) rfl (by kernel_rfl) (by kernel_rfl) (by kernel_rfl) h
  · have h := h.2 hb
    refine aw_skip ?_
    refine thenQ_n ?_
    refine aw_seq ?_
    refine aw_region ?_
    obtain ⟨o1, h⟩ := h
    refine awl_runp 4 [0, 1, 2, 3, 4, 50, 51, 52] [40000, 40001, 40002, 40003, 40004] (ob := (True ∧ True ∧ inIdx i c0.length ∧ True ∧ True)) (st' := (⟨50, [(0, [], .v (.c (.p (.int .i64) i))), (1, [], .v (.c (.ptr 40000 0))), (2, [], .v (.c (.ad (.pr (.sl (.pr (.int .i64) (.pr (.int .i64) (.pr (.int .i64) (.sl (.sl (.int .i64))))))) (.int .i64)) q0))), (3, [], .v (.c (.ptr 40002 0))), (4, [], .v (.c (.ptr 40003 0))), (50, [], .v (.c (.ptr 40000 0))), (51, [], .v (.c (.ptr 40002 0))), (52, [], .v (.c (.ptr 40003 0)))], [(40000, [], .box [.own 40001]), (40001, [], .arr 3 (.int .i64) (c0.set ((i).toNat) (1 : Int))), (40002, [], .box [.cl 69 [.pt 40000 0, .ad ⟨(.pr (.sl (.pr (.int .i64) (.pr (.int .i64) (.pr (.int .i64) (.sl (.sl (.int .i64))))))) (.int .i64)), q0⟩, .pt 40002 0, .pt 40003 0]]), (40003, [], .box [.own 40004]), (40004, [], .arr 3 (.int .i64) c1)]⟩ : St)) (by kernel_rfl) ⟨trivial, trivial, o1, trivial, trivial⟩ ?_
    refine awl_nil ?_
    refine thenQ_n ?_
    refine aw_seq ?_
    refine aw_seq ?_
    refine aw_region ?_
    obtain ⟨o1, h⟩ := h
    refine awl_runp 8 [0, 1, 3, 4, 27, 28, 29, 50, 51, 52] [40000, 40001, 40002, 40003, 40004] (ob := (True ∧ True ∧ True ∧ inIdx i q0.1.length ∧ True ∧ True ∧ True ∧ True ∧ True)) (st' := (⟨50, [(0, [], .v (.c (.p (.int .i64) i))), (1, [], .v (.c (.ptr 40000 0))), (3, [], .v (.c (.ptr 40002 0))), (4, [], .v (.c (.ptr 40003 0))), (27, [], .v (.c (.p (.sl (.sl (.int .i64))) ((q0.1.getD (i).toNat ((0 : Int), ((0 : Int), ((0 : Int), ([] : (List (List Int))))))).2.2.2)))), (28, [], .v (.c (.p (.int .i64) (((q0.1.getD (i).toNat ((0 : Int), ((0 : Int), ((0 : Int), ([] : (List (List Int))))))).2.2.2).length : Int)))), (29, [], .v (.c (.p (.int .i64) (0 : Int)))), (50, [], .v (.c (.ptr 40000 0))), (51, [], .v (.c (.ptr 40002 0))), (52, [], .v (.c (.ptr 40003 0)))], [(40000, [], .box [.own 40001]), (40001, [], .arr 3 (.int .i64) (c0.set ((i).toNat) (1 : Int))), (40002, [], .box [.cl 69 [.pt 40000 0, .ad ⟨(.pr (.sl (.pr (.int .i64) (.pr (.int .i64) (.pr (.int .i64) (.sl (.sl (.int .i64))))))) (.int .i64)), q0⟩, .pt 40002 0, .pt 40003 0]]), (40003, [], .box [.own 40004]), (40004, [], .arr 3 (.int .i64) c1)]⟩ : St)) (by kernel_rfl) ⟨trivial, trivial, trivial, o1, trivial, trivial, trivial, trivial, trivial⟩ ?_
    refine awl_nil ?_
    refine thenQ_n ?_
    refine withJoin (σ := (List Int) × (List Int)) (fun s => (⟨50, [(0, [], .v (.c (.p (.int .i64) i))), (1, [], .v (.c (.ptr 40000 0))), (4, [], .v (.c (.ptr 40003 0))), (50, [], .v (.c (.ptr 40000 0))), (51, [], .v (.c (.ptr 40002 0))), (52, [], .v (.c (.ptr 40003 0)))], [(40000, [], .box [.own 40001]), (40001, [], .arr 3 (.int .i64) s.1), (40002, [], .box [.cl 69 [.pt 40000 0, .ad ⟨(.pr (.sl (.pr (.int .i64) (.pr (.int .i64) (.pr (.int .i64) (.sl (.sl (.int .i64))))))) (.int .i64)), q0⟩, .pt 40002 0, .pt 40003 0]]), (40003, [], .box [.own 40004]), (40004, [], .arr 3 (.int .i64) s.2)]⟩ : St)) (fun s => VCc69_k1 i K s.1 s.2) (fun s h => ?_) (fun rest1 => ?_)
    · obtain ⟨l40001, l40004⟩ := s
      have h : VCc69_k1 i K l40001 l40004 := h
      unfold VCc69_k1 at h
      refine thenQ_n ?_
      refine aw_seq ?_
      refine aw_region ?_
      obtain ⟨o1, h⟩ := h
      refine awl_runp 4 [0, 4, 50, 51, 52] [40000, 40001, 40002, 40003, 40004] (ob := (True ∧ True ∧ inIdx i l40001.length ∧ True ∧ True)) (st' := (⟨50, [(0, [], .v (.c (.p (.int .i64) i))), (4, [], .v (.c (.ptr 40003 0))), (50, [], .v (.c (.ptr 40000 0))), (51, [], .v (.c (.ptr 40002 0))), (52, [], .v (.c (.ptr 40003 0)))], [(40000, [], .box [.own 40001]), (40001, [], .arr 3 (.int .i64) (l40001.set ((i).toNat) (2 : Int))), (40002, [], .box [.cl 69 [.pt 40000 0, .ad ⟨(.pr (.sl (.pr (.int .i64) (.pr (.int .i64) (.pr (.int .i64) (.sl (.sl (.int .i64))))))) (.int .i64)), q0⟩, .pt 40002 0, .pt 40003 0]]), (40003, [], .box [.own 40004]), (40004, [], .arr 3 (.int .i64) l40004)]⟩ : St)) (by kernel_rfl) ⟨trivial, trivial, o1, trivial, trivial⟩ ?_
      refine awl_nil ?_
      refine thenQ_n ?_
      refine aw_seq ?_
      refine aw_region ?_
      obtain ⟨o1, h⟩ := h
      refine awl_runp 5 [50, 51, 52] [49, 40000, 40001, 40002, 40003] (ob := (True ∧ True ∧ True ∧ roomN (l40004.length + [i].length) ∧ True ∧ True)) (st' := (⟨50, [(50, [], .v (.c (.ptr 40000 0))), (51, [], .v (.c (.ptr 40002 0))), (52, [], .v (.c (.ptr 40003 0)))], [(49, [], .arr 3 (.int .i64) (l40004 ++ [i])), (40000, [], .box [.own 40001]), (40001, [], .arr 3 (.int .i64) (l40001.set ((i).toNat) (2 : Int))), (40002, [], .box [.cl 69 [.pt 40000 0, .ad ⟨(.pr (.sl (.pr (.int .i64) (.pr (.int .i64) (.pr (.int .i64) (.sl (.sl (.int .i64))))))) (.int .i64)), q0⟩, .pt 40002 0, .pt 40003 0]]), (40003, [], .box [.own 49])]⟩ : St)) (by kernel_rfl) ⟨trivial, trivial, trivial, o1, trivial, trivial⟩ ?_
      refine awl_nil ?_
      refine thenQ_n ?_
      refine aw_seq ?_
      refine aw_region ?_
      refine awl_runp 1 [6, 50, 51, 52] [49, 40000, 40001, 40002, 40003] (ob := (True ∧ True)) (st' := (⟨50, [(6, [], .v (.c (.p .bool true))), (50, [], .v (.c (.ptr 40000 0))), (51, [], .v (.c (.ptr 40002 0))), (52, [], .v (.c (.ptr 40003 0)))], [(49, [], .arr 3 (.int .i64) (l40004 ++ [i])), (40000, [], .box [.own 40001]), (40001, [], .arr 3 (.int .i64) (l40001.set ((i).toNat) (2 : Int))), (40002, [], .box [.cl 69 [.pt 40000 0, .ad ⟨(.pr (.sl (.pr (.int .i64) (.pr (.int .i64) (.pr (.int .i64) (.sl (.sl (.int .i64))))))) (.int .i64)), q0⟩, .pt 40002 0, .pt 40003 0]]), (40003, [], .box [.own 49])]⟩ : St)) (by kernel_rfl) ⟨trivial, trivial⟩ ?_
      refine awl_nil ?_
      refine thenQ_n ?_
      refine aw_conv [.ren 49 40004, .prune [6, 50, 51, 52] [40000, 40001, 40002, 40003, 40004]] (st' := (⟨50, [(6, [], .v (.c (.p .bool true))), (50, [], .v (.c (.ptr 40000 0))), (51, [], .v (.c (.ptr 40002 0))), (52, [], .v (.c (.ptr 40003 0)))], [(40000, [], .box [.own 40001]), (40001, [], .arr 3 (.int .i64) (l40001.set ((i).toNat) (2 : Int))), (40002, [], .box [.cl 69 [.pt 40000 0, .ad ⟨(.pr (.sl (.pr (.int .i64) (.pr (.int .i64) (.pr (.int .i64) (.sl (.sl (.int .i64))))))) (.int .i64)), q0⟩, .pt 40002 0, .pt 40003 0]]), (40003, [], .box [.own 40004]), (40004, [], .arr 3 (.int .i64) (l40004 ++ [i]))]⟩ : St)) (by kernel_rfl) ?_
      refine aw_ret ?_
      exact lret_r (σ := Bool × (List Int) × (List Int)) (A := fun y => .v (.c (.p .bool y.1))) (H := fun y => [(40000, [], .box [.own 40001]), (40001, [], .arr 3 (.int .i64) y.2.1), (40002, [], .box [.cl 69 [.pt 40000 0, .ad ⟨(.pr (.sl (.pr (.int .i64) (.pr (.int .i64) (.pr (.int .i64) (.sl (.sl (.int .i64))))))) (.int .i64)), q0⟩, .pt 40002 0, .pt 40003 0]]), (40003, [], .box [.own 40004]), (40004, [], .arr 3 (.int .i64) y.2.2)]) (true, (l40001.set ((i).toNat) (2 : Int)), (l40004 ++ [i])) (by kernel_rfl) rfl (by kernel_rfl) (by kernel_rfl) (by kernel_rfl) h
    · refine aw_block ?_
      refine aw_loop (σ := Int × (List Int) × (List Int)) (fun s => (⟨50, [(0, [], .v (.c (.p (.int .i64) i))), (1, [], .v (.c (.ptr 40000 0))), (3, [], .v (.c (.ptr 40002 0))), (4, [], .v (.c (.ptr 40003 0))), (27, [], .v (.c (.p (.sl (.sl (.int .i64))) ((q0.1.getD (i).toNat ((0 : Int), ((0 : Int), ((0 : Int), ([] : (List (List Int))))))).2.2.2)))), (28, [], .v (.c (.p (.int .i64) (((q0.1.getD (i).toNat ((0 : Int), ((0 : Int), ((0 : Int), ([] : (List (List Int))))))).2.2.2).length : Int)))), (29, [], .v (.c (.p (.int .i64) s.1))), (50, [], .v (.c (.ptr 40000 0))), (51, [], .v (.c (.ptr 40002 0))), (52, [], .v (.c (.ptr 40003 0)))], [(40000, [], .box [.own 40001]), (40001, [], .arr 3 (.int .i64) s.2.1), (40002, [], .box [.cl 69 [.pt 40000 0, .ad ⟨(.pr (.sl (.pr (.int .i64) (.pr (.int .i64) (.pr (.int .i64) (.sl (.sl (.int .i64))))))) (.int .i64)), q0⟩, .pt 40002 0, .pt 40003 0]]), (40003, [], .box [.own 40004]), (40004, [], .arr 3 (.int .i64) s.2.2)]⟩ : St)) (fun s X => VCc69_l1 q0 R i K s.1 s.2.1 s.2.2 X) (s0 := ((0 : Int), (c0.set ((i).toNat) (1 : Int)), c1)) (fun s X1 h => ?_) h
      obtain ⟨v29, l40001, l40004⟩ := s
      have h : VCc69_l1 q0 R i K v29 l40001 l40004 X1 := h
      unfold VCc69_l1 at h
      refine aw_seq ?_
      refine aw_region ?_
      refine awl_runp 1 [0, 1, 3, 4, 27, 28, 29, 30, 50, 51, 52] [40000, 40001, 40002, 40003, 40004] (ob := (True ∧ True)) (st' := (⟨50, [(0, [], .v (.c (.p (.int .i64) i))), (1, [], .v (.c (.ptr 40000 0))), (3, [], .v (.c (.ptr 40002 0))), (4, [], .v (.c (.ptr 40003 0))), (27, [], .v (.c (.p (.sl (.sl (.int .i64))) ((q0.1.getD (i).toNat ((0 : Int), ((0 : Int), ((0 : Int), ([] : (List (List Int))))))).2.2.2)))), (28, [], .v (.c (.p (.int .i64) (((q0.1.getD (i).toNat ((0 : Int), ((0 : Int), ((0 : Int), ([] : (List (List Int))))))).2.2.2).length : Int)))), (29, [], .v (.c (.p (.int .i64) v29))), (30, [], .v (.c (.p .bool (decide (v29 < (((q0.1.getD (i).toNat ((0 : Int), ((0 : Int), ((0 : Int), ([] : (List (List Int))))))).2.2.2).length : Int)))))), (50, [], .v (.c (.ptr 40000 0))), (51, [], .v (.c (.ptr 40002 0))), (52, [], .v (.c (.ptr 40003 0)))], [(40000, [], .box [.own 40001]), (40001, [], .arr 3 (.int .i64) l40001), (40002, [], .box [.cl 69 [.pt 40000 0, .ad ⟨(.pr (.sl (.pr (.int .i64) (.pr (.int .i64) (.pr (.int .i64) (.sl (.sl (.int .i64))))))) (.int .i64)), q0⟩, .pt 40002 0, .pt 40003 0]]), (40003, [], .box [.own 40004]), (40004, [], .arr 3 (.int .i64) l40004)]⟩ : St)) (by kernel_rfl) ⟨trivial, trivial⟩ ?_
      refine awl_nil ?_
      refine thenQ_n ?_
      refine aw_seq ?_
      refine aw_cond (b := (decide (v29 < (((q0.1.getD (i).toNat ((0 : Int), ((0 : Int), ((0 : Int), ([] : (List (List Int))))))).2.2.2).length : Int)))) (by kernel_rfl) (fun hb => ?_) (fun hb => ?_)
      · have h := h.1 hb
        refine aw_skip ?_
        refine thenQ_n ?_
        refine aw_seq ?_
        refine withJoin (σ := (List Int) × (List Int)) (fun s => (⟨50, [(0, [], .v (.c (.p (.int .i64) i))), (1, [], .v (.c (.ptr 40000 0))), (3, [], .v (.c (.ptr 40002 0))), (4, [], .v (.c (.ptr 40003 0))), (27, [], .v (.c (.p (.sl (.sl (.int .i64))) ((q0.1.getD (i).toNat ((0 : Int), ((0 : Int), ((0 : Int), ([] : (List (List Int))))))).2.2.2)))), (28, [], .v (.c (.p (.int .i64) (((q0.1.getD (i).toNat ((0 : Int), ((0 : Int), ((0 : Int), ([] : (List (List Int))))))).2.2.2).length : Int)))), (29, [], .v (.c (.p (.int .i64) v29))), (50, [], .v (.c (.ptr 40000 0))), (51, [], .v (.c (.ptr 40002 0))), (52, [], .v (.c (.ptr 40003 0)))], [(40000, [], .box [.own 40001]), (40001, [], .arr 3 (.int .i64) s.1), (40002, [], .box [.cl 69 [.pt 40000 0, .ad ⟨(.pr (.sl (.pr (.int .i64) (.pr (.int .i64) (.pr (.int .i64) (.sl (.sl (.int .i64))))))) (.int .i64)), q0⟩, .pt 40002 0, .pt 40003 0]]), (40003, [], .box [.own 40004]), (40004, [], .arr 3 (.int .i64) s.2)]⟩ : St)) (fun s => VCc69_k2 v29 X1 s.1 s.2) (fun s h => ?_) (fun rest2 => ?_)
        · obtain ⟨l400012, l400042⟩ := s
          have h : VCc69_k2 v29 X1 l400012 l400042 := h
          unfold VCc69_k2 at h
          refine thenQ_n ?_
          refine aw_region ?_
          obtain ⟨o1, h⟩ := h
          refine awl_runp 2 [0, 1, 3, 4, 27, 28, 29, 50, 51, 52] [40000, 40001, 40002, 40003, 40004] (ob := (InR (v29 + (1 : Int)) ∧ True ∧ True)) (st' := (⟨50, [(0, [], .v (.c (.p (.int .i64) i))), (1, [], .v (.c (.ptr 40000 0))), (3, [], .v (.c (.ptr 40002 0))), (4, [], .v (.c (.ptr 40003 0))), (27, [], .v (.c (.p (.sl (.sl (.int .i64))) ((q0.1.getD (i).toNat ((0 : Int), ((0 : Int), ((0 : Int), ([] : (List (List Int))))))).2.2.2)))), (28, [], .v (.c (.p (.int .i64) (((q0.1.getD (i).toNat ((0 : Int), ((0 : Int), ((0 : Int), ([] : (List (List Int))))))).2.2.2).length : Int)))), (29, [], .v (.c (.p (.int .i64) (v29 + (1 : Int))))), (50, [], .v (.c (.ptr 40000 0))), (51, [], .v (.c (.ptr 40002 0))), (52, [], .v (.c (.ptr 40003 0)))], [(40000, [], .box [.own 40001]), (40001, [], .arr 3 (.int .i64) l400012), (40002, [], .box [.cl 69 [.pt 40000 0, .ad ⟨(.pr (.sl (.pr (.int .i64) (.pr (.int .i64) (.pr (.int .i64) (.sl (.sl (.int .i64))))))) (.int .i64)), q0⟩, .pt 40002 0, .pt 40003 0]]), (40003, [], .box [.own 40004]), (40004, [], .arr 3 (.int .i64) l400042)]⟩ : St)) (by kernel_rfl) ⟨o1, trivial, trivial⟩ ?_
          refine awl_nil ?_
          exact thenQ_n ⟨((v29 + (1 : Int)), l400012, l400042), rfl, h⟩
        · refine aw_block ?_
          refine aw_seq ?_
          refine aw_region ?_
          obtain ⟨o1, h⟩ := h
          refine awl_runp 3 [0, 1, 3, 4, 8, 27, 28, 29, 50, 51, 52] [40000, 40001, 40002, 40003, 40004] (ob := (inIdx v29 ((q0.1.getD (i).toNat ((0 : Int), ((0 : Int), ((0 : Int), ([] : (List (List Int))))))).2.2.2).length ∧ True ∧ True ∧ True)) (st' := (⟨50, [(0, [], .v (.c (.p (.int .i64) i))), (1, [], .v (.c (.ptr 40000 0))), (3, [], .v (.c (.ptr 40002 0))), (4, [], .v (.c (.ptr 40003 0))), (8, [], .v (.c (.p (.sl (.int .i64)) (((q0.1.getD (i).toNat ((0 : Int), ((0 : Int), ((0 : Int), ([] : (List (List Int))))))).2.2.2).getD (v29).toNat ([] : (List Int)))))), (27, [], .v (.c (.p (.sl (.sl (.int .i64))) ((q0.1.getD (i).toNat ((0 : Int), ((0 : Int), ((0 : Int), ([] : (List (List Int))))))).2.2.2)))), (28, [], .v (.c (.p (.int .i64) (((q0.1.getD (i).toNat ((0 : Int), ((0 : Int), ((0 : Int), ([] : (List (List Int))))))).2.2.2).length : Int)))), (29, [], .v (.c (.p (.int .i64) v29))), (50, [], .v (.c (.ptr 40000 0))), (51, [], .v (.c (.ptr 40002 0))), (52, [], .v (.c (.ptr 40003 0)))], [(40000, [], .box [.own 40001]), (40001, [], .arr 3 (.int .i64) l40001), (40002, [], .box [.cl 69 [.pt 40000 0, .ad ⟨(.pr (.sl (.pr (.int .i64) (.pr (.int .i64) (.pr (.int .i64) (.sl (.sl (.int .i64))))))) (.int .i64)), q0⟩, .pt 40002 0, .pt 40003 0]]), (40003, [], .box [.own 40004]), (40004, [], .arr 3 (.int .i64) l40004)]⟩ : St)) (by kernel_rfl) ⟨o1, trivial, trivial, trivial⟩ ?_
          refine awl_nil ?_
          refine thenQ_n ?_
          refine aw_seq ?_
          refine aw_region ?_
          obtain ⟨o1, h⟩ := h
          refine awl_runp 7 [0, 1, 3, 4, 27, 28, 29, 36, 38, 39, 50, 51, 52] [40000, 40001, 40002, 40003, 40004] (ob := (True ∧ True ∧ True ∧ True ∧ ((decide ((0 : Int) < ((((q0.1.getD (i).toNat ((0 : Int), ((0 : Int), ((0 : Int), ([] : (List (List Int))))))).2.2.2).getD (v29).toNat ([] : (List Int))).length : Int))) = true → True) ∧ ((decide ((0 : Int) < ((((q0.1.getD (i).toNat ((0 : Int), ((0 : Int), ((0 : Int), ([] : (List (List Int))))))).2.2.2).getD (v29).toNat ([] : (List Int))).length : Int))) = true → (0 ≤ (1 : Int) ∧ (1 : Int) ≤ ((((q0.1.getD (i).toNat ((0 : Int), ((0 : Int), ((0 : Int), ([] : (List (List Int))))))).2.2.2).getD (v29).toNat ([] : (List Int))).length : Int))) ∧ ((decide ((0 : Int) < ((((q0.1.getD (i).toNat ((0 : Int), ((0 : Int), ((0 : Int), ([] : (List (List Int))))))).2.2.2).getD (v29).toNat ([] : (List Int))).length : Int))) = true → True) ∧ True)) (st' := (⟨50, [(0, [], .v (.c (.p (.int .i64) i))), (1, [], .v (.c (.ptr 40000 0))), (3, [], .v (.c (.ptr 40002 0))), (4, [], .v (.c (.ptr 40003 0))), (27, [], .v (.c (.p (.sl (.sl (.int .i64))) ((q0.1.getD (i).toNat ((0 : Int), ((0 : Int), ((0 : Int), ([] : (List (List Int))))))).2.2.2)))), (28, [], .v (.c (.p (.int .i64) (((q0.1.getD (i).toNat ((0 : Int), ((0 : Int), ((0 : Int), ([] : (List (List Int))))))).2.2.2).length : Int)))), (29, [], .v (.c (.p (.int .i64) v29))), (36, [], .v (.c (.p .bool (decide ((0 : Int) < ((((q0.1.getD (i).toNat ((0 : Int), ((0 : Int), ((0 : Int), ([] : (List (List Int))))))).2.2.2).getD (v29).toNat ([] : (List Int))).length : Int)))))), (38, [(36, true)], .v (.c (.p (.sl (.int .i64)) ((((q0.1.getD (i).toNat ((0 : Int), ((0 : Int), ((0 : Int), ([] : (List (List Int))))))).2.2.2).getD (v29).toNat ([] : (List Int))).drop ((1 : Int)).toNat)))), (39, [(36, true)], .v (.c (.cl 70 [.pt 40002 0]))), (50, [], .v (.c (.ptr 40000 0))), (51, [], .v (.c (.ptr 40002 0))), (52, [], .v (.c (.ptr 40003 0)))], [(40000, [], .box [.own 40001]), (40001, [], .arr 3 (.int .i64) l40001), (40002, [], .box [.cl 69 [.pt 40000 0, .ad ⟨(.pr (.sl (.pr (.int .i64) (.pr (.int .i64) (.pr (.int .i64) (.sl (.sl (.int .i64))))))) (.int .i64)), q0⟩, .pt 40002 0, .pt 40003 0]]), (40003, [], .box [.own 40004]), (40004, [], .arr 3 (.int .i64) l40004)]⟩ : St)) (by kernel_rfl) ⟨trivial, trivial, trivial, trivial, (fun _ => trivial), o1, (fun _ => trivial), trivial⟩ ?_
          refine awl_inlg [4] [40000, 40001, 40002, 40003, 40004] [(36, true)] [.c (.p (.sl (.int .i64)) ((((q0.1.getD (i).toNat ((0 : Int), ((0 : Int), ((0 : Int), ([] : (List (List Int))))))).2.2.2).getD (v29).toNat ([] : (List Int))).drop ((1 : Int)).toNat)), .c (.cl 70 [.pt 40002 0])] [] (.v (.c (.p .bool false))) (by kernel_rfl) rfl (by kernel_rfl) rfl (by kernel_rfl) Try.call48 (by kernel_rfl) (by kernel_rfl) Try.func48 rfl rfl (by kernel_rfl) (fun hb => ?_) (fun hb => ?_)
          · have h := h.1 hb
            refine aw_conv [] (st' := (⟨9, [(0, [], .v (.c (.p (.sl (.int .i64)) ((((q0.1.getD (i).toNat ((0 : Int), ((0 : Int), ((0 : Int), ([] : (List (List Int))))))).2.2.2).getD (v29).toNat ([] : (List Int))).drop ((1 : Int)).toNat)))), (1, [], .v (.c (.cl 70 [.pt 40002 0]))), (9, [], .v (.c (.p (.int .i64) i))), (10, [], .v (.c (.ptr 40000 0))), (12, [], .v (.c (.ptr 40002 0))), (13, [], .v (.c (.ptr 40003 0))), (36, [], .v (.c (.p (.sl (.sl (.int .i64))) ((q0.1.getD (i).toNat ((0 : Int), ((0 : Int), ((0 : Int), ([] : (List (List Int))))))).2.2.2)))), (37, [], .v (.c (.p (.int .i64) (((q0.1.getD (i).toNat ((0 : Int), ((0 : Int), ((0 : Int), ([] : (List (List Int))))))).2.2.2).length : Int)))), (38, [], .v (.c (.p (.int .i64) v29))), (45, [], .v (.c (.p .bool (decide ((0 : Int) < ((((q0.1.getD (i).toNat ((0 : Int), ((0 : Int), ((0 : Int), ([] : (List (List Int))))))).2.2.2).getD (v29).toNat ([] : (List Int))).length : Int)))))), (59, [], .v (.c (.ptr 40000 0))), (60, [], .v (.c (.ptr 40002 0))), (61, [], .v (.c (.ptr 40003 0)))], [(40000, [], .box [.own 40001]), (40001, [], .arr 3 (.int .i64) l40001), (40002, [], .box [.cl 69 [.pt 40000 0, .ad ⟨(.pr (.sl (.pr (.int .i64) (.pr (.int .i64) (.pr (.int .i64) (.sl (.sl (.int .i64))))))) (.int .i64)), q0⟩, .pt 40002 0, .pt 40003 0]]), (40003, [], .box [.own 40004]), (40004, [], .arr 3 (.int .i64) l40004)]⟩ : St)) (by kernel_rfl) ?_
            refine aw_seq ?_
            refine aw_region ?_
            refine awl_runp 1 [0, 1, 9, 10, 12, 13, 36, 37, 38, 45, 59, 60, 61] [40000, 40001, 40002, 40003, 40004] (ob := (True ∧ True)) (st' := (⟨9, [(0, [], .v (.c (.p (.sl (.int .i64)) ((((q0.1.getD (i).toNat ((0 : Int), ((0 : Int), ((0 : Int), ([] : (List (List Int))))))).2.2.2).getD (v29).toNat ([] : (List Int))).drop ((1 : Int)).toNat)))), (1, [], .v (.c (.cl 70 [.pt 40002 0]))), (9, [], .v (.c (.p (.int .i64) i))), (10, [], .v (.c (.ptr 40000 0))), (12, [], .v (.c (.ptr 40002 0))), (13, [], .v (.c (.ptr 40003 0))), (36, [], .v (.c (.p (.sl (.sl (.int .i64))) ((q0.1.getD (i).toNat ((0 : Int), ((0 : Int), ((0 : Int), ([] : (List (List Int))))))).2.2.2)))), (37, [], .v (.c (.p (.int .i64) (((q0.1.getD (i).toNat ((0 : Int), ((0 : Int), ((0 : Int), ([] : (List (List Int))))))).2.2.2).length : Int)))), (38, [], .v (.c (.p (.int .i64) v29))), (45, [], .v (.c (.p .bool (decide ((0 : Int) < ((((q0.1.getD (i).toNat ((0 : Int), ((0 : Int), ((0 : Int), ([] : (List (List Int))))))).2.2.2).getD (v29).toNat ([] : (List Int))).length : Int)))))), (59, [], .v (.c (.ptr 40000 0))), (60, [], .v (.c (.ptr 40002 0))), (61, [], .v (.c (.ptr 40003 0)))], [(40000, [], .box [.own 40001]), (40001, [], .arr 3 (.int .i64) l40001), (40002, [], .box [.cl 69 [.pt 40000 0, .ad ⟨(.pr (.sl (.pr (.int .i64) (.pr (.int .i64) (.pr (.int .i64) (.sl (.sl (.int .i64))))))) (.int .i64)), q0⟩, .pt 40002 0, .pt 40003 0]]), (40003, [], .box [.own 40004]), (40004, [], .arr 3 (.int .i64) l40004)]⟩ : St)) (by kernel_rfl) ⟨trivial, trivial⟩ ?_
            refine awl_nil ?_
            refine thenQ_n ?_
            refine aw_seq ?_
            refine aw_region ?_
            refine awl_runp 2 [5, 6, 9, 10, 12, 13, 36, 37, 38, 45, 59, 60, 61] [40000, 40001, 40002, 40003, 40004] (ob := (True ∧ True ∧ True)) (st' := (⟨9, [(5, [], .v (.c (.p (.sl (.int .i64)) ((((q0.1.getD (i).toNat ((0 : Int), ((0 : Int), ((0 : Int), ([] : (List (List Int))))))).2.2.2).getD (v29).toNat ([] : (List Int))).drop ((1 : Int)).toNat)))), (6, [], .v (.c (.cl 70 [.pt 40002 0]))), (9, [], .v (.c (.p (.int .i64) i))), (10, [], .v (.c (.ptr 40000 0))), (12, [], .v (.c (.ptr 40002 0))), (13, [], .v (.c (.ptr 40003 0))), (36, [], .v (.c (.p (.sl (.sl (.int .i64))) ((q0.1.getD (i).toNat ((0 : Int), ((0 : Int), ((0 : Int), ([] : (List (List Int))))))).2.2.2)))), (37, [], .v (.c (.p (.int .i64) (((q0.1.getD (i).toNat ((0 : Int), ((0 : Int), ((0 : Int), ([] : (List (List Int))))))).2.2.2).length : Int)))), (38, [], .v (.c (.p (.int .i64) v29))), (45, [], .v (.c (.p .bool (decide ((0 : Int) < ((((q0.1.getD (i).toNat ((0 : Int), ((0 : Int), ((0 : Int), ([] : (List (List Int))))))).2.2.2).getD (v29).toNat ([] : (List Int))).length : Int)))))), (59, [], .v (.c (.ptr 40000 0))), (60, [], .v (.c (.ptr 40002 0))), (61, [], .v (.c (.ptr 40003 0)))], [(40000, [], .box [.own 40001]), (40001, [], .arr 3 (.int .i64) l40001), (40002, [], .box [.cl 69 [.pt 40000 0, .ad ⟨(.pr (.sl (.pr (.int .i64) (.pr (.int .i64) (.pr (.int .i64) (.sl (.sl (.int .i64))))))) (.int .i64)), q0⟩, .pt 40002 0, .pt 40003 0]]), (40003, [], .box [.own 40004]), (40004, [], .arr 3 (.int .i64) l40004)]⟩ : St)) (by kernel_rfl) ⟨trivial, trivial, trivial⟩ ?_
            refine awl_inlr [4] [40000, 40001, 40002, 40003, 40004] [.c (.p (.sl (.int .i64)) ((((q0.1.getD (i).toNat ((0 : Int), ((0 : Int), ((0 : Int), ([] : (List (List Int))))))).2.2.2).getD (v29).toNat ([] : (List Int))).drop ((1 : Int)).toNat)), .c (.cl 70 [.pt 40002 0])] [] rfl rfl (by kernel_rfl) rfl (by kernel_rfl) Try.call71 (by kernel_rfl) (by kernel_rfl) Try.func71 rfl rfl (by kernel_rfl) ?_
            refine aw_conv [] (st' := (⟨19, [(0, [], .v (.c (.p (.sl (.int .i64)) ((((q0.1.getD (i).toNat ((0 : Int), ((0 : Int), ((0 : Int), ([] : (List (List Int))))))).2.2.2).getD (v29).toNat ([] : (List Int))).drop ((1 : Int)).toNat)))), (1, [], .v (.c (.cl 70 [.pt 40002 0]))), (24, [], .v (.c (.p (.sl (.int .i64)) ((((q0.1.getD (i).toNat ((0 : Int), ((0 : Int), ((0 : Int), ([] : (List (List Int))))))).2.2.2).getD (v29).toNat ([] : (List Int))).drop ((1 : Int)).toNat)))), (25, [], .v (.c (.cl 70 [.pt 40002 0]))), (28, [], .v (.c (.p (.int .i64) i))), (29, [], .v (.c (.ptr 40000 0))), (31, [], .v (.c (.ptr 40002 0))), (32, [], .v (.c (.ptr 40003 0))), (55, [], .v (.c (.p (.sl (.sl (.int .i64))) ((q0.1.getD (i).toNat ((0 : Int), ((0 : Int), ((0 : Int), ([] : (List (List Int))))))).2.2.2)))), (56, [], .v (.c (.p (.int .i64) (((q0.1.getD (i).toNat ((0 : Int), ((0 : Int), ((0 : Int), ([] : (List (List Int))))))).2.2.2).length : Int)))), (57, [], .v (.c (.p (.int .i64) v29))), (64, [], .v (.c (.p .bool (decide ((0 : Int) < ((((q0.1.getD (i).toNat ((0 : Int), ((0 : Int), ((0 : Int), ([] : (List (List Int))))))).2.2.2).getD (v29).toNat ([] : (List Int))).length : Int)))))), (78, [], .v (.c (.ptr 40000 0))), (79, [], .v (.c (.ptr 40002 0))), (80, [], .v (.c (.ptr 40003 0)))], [(40000, [], .box [.own 40001]), (40001, [], .arr 3 (.int .i64) l40001), (40002, [], .box [.cl 69 [.pt 40000 0, .ad ⟨(.pr (.sl (.pr (.int .i64) (.pr (.int .i64) (.pr (.int .i64) (.sl (.sl (.int .i64))))))) (.int .i64)), q0⟩, .pt 40002 0, .pt 40003 0]]), (40003, [], .box [.own 40004]), (40004, [], .arr 3 (.int .i64) l40004)]⟩ : St)) (by kernel_rfl) ?_
            refine withJoinR (σ := Int × (List Int) × (List Int)) (fun s => (⟨19, [(4, [], .v (.c (.p (.int .i64) s.1))), (28, [], .v (.c (.p (.int .i64) i))), (29, [], .v (.c (.ptr 40000 0))), (31, [], .v (.c (.ptr 40002 0))), (32, [], .v (.c (.ptr 40003 0))), (55, [], .v (.c (.p (.sl (.sl (.int .i64))) ((q0.1.getD (i).toNat ((0 : Int), ((0 : Int), ((0 : Int), ([] : (List (List Int))))))).2.2.2)))), (56, [], .v (.c (.p (.int .i64) (((q0.1.getD (i).toNat ((0 : Int), ((0 : Int), ((0 : Int), ([] : (List (List Int))))))).2.2.2).length : Int)))), (57, [], .v (.c (.p (.int .i64) v29))), (64, [], .v (.c (.p .bool (decide ((0 : Int) < ((((q0.1.getD (i).toNat ((0 : Int), ((0 : Int), ((0 : Int), ([] : (List (List Int))))))).2.2.2).getD (v29).toNat ([] : (List Int))).length : Int)))))), (78, [], .v (.c (.ptr 40000 0))), (79, [], .v (.c (.ptr 40002 0))), (80, [], .v (.c (.ptr 40003 0)))], [(40000, [], .box [.own 40001]), (40001, [], .arr 3 (.int .i64) s.2.1), (40002, [], .box [.cl 69 [.pt 40000 0, .ad ⟨(.pr (.sl (.pr (.int .i64) (.pr (.int .i64) (.pr (.int .i64) (.sl (.sl (.int .i64))))))) (.int .i64)), q0⟩, .pt 40002 0, .pt 40003 0]]), (40003, [], .box [.own 40004]), (40004, [], .arr 3 (.int .i64) s.2.2)]⟩ : St)) (fun s => VCc69_k3 q0 i K v29 X1 s.1 s.2.1 s.2.2) (fun s h => ?_) (fun rest3 => ?_)
            · obtain ⟨v4, l400012, l400042⟩ := s
              have h : VCc69_k3 q0 i K v29 X1 v4 l400012 l400042 := h
              unfold VCc69_k3 at h
              refine inlR_n (.v (.c (.p (.int .i64) v4))) (by kernel_rfl) rfl ?_
              refine awl_conv [.prune [7, 9, 10, 12, 13, 36, 37, 38, 45, 59, 60, 61] [40000, 40001, 40002, 40003, 40004]] (st' := (⟨9, [(7, [], .v (.c (.p (.int .i64) v4))), (9, [], .v (.c (.p (.int .i64) i))), (10, [], .v (.c (.ptr 40000 0))), (12, [], .v (.c (.ptr 40002 0))), (13, [], .v (.c (.ptr 40003 0))), (36, [], .v (.c (.p (.sl (.sl (.int .i64))) ((q0.1.getD (i).toNat ((0 : Int), ((0 : Int), ((0 : Int), ([] : (List (List Int))))))).2.2.2)))), (37, [], .v (.c (.p (.int .i64) (((q0.1.getD (i).toNat ((0 : Int), ((0 : Int), ((0 : Int), ([] : (List (List Int))))))).2.2.2).length : Int)))), (38, [], .v (.c (.p (.int .i64) v29))), (45, [], .v (.c (.p .bool (decide ((0 : Int) < ((((q0.1.getD (i).toNat ((0 : Int), ((0 : Int), ((0 : Int), ([] : (List (List Int))))))).2.2.2).getD (v29).toNat ([] : (List Int))).length : Int)))))), (59, [], .v (.c (.ptr 40000 0))), (60, [], .v (.c (.ptr 40002 0))), (61, [], .v (.c (.ptr 40003 0)))], [(40000, [], .box [.own 40001]), (40001, [], .arr 3 (.int .i64) l400012), (40002, [], .box [.cl 69 [.pt 40000 0, .ad ⟨(.pr (.sl (.pr (.int .i64) (.pr (.int .i64) (.pr (.int .i64) (.sl (.sl (.int .i64))))))) (.int .i64)), q0⟩, .pt 40002 0, .pt 40003 0]]), (40003, [], .box [.own 40004]), (40004, [], .arr 3 (.int .i64) l400042)]⟩ : St)) (by kernel_rfl) ?_
              refine awl_runp 2 [4, 9, 10, 12, 13, 36, 37, 38, 45, 59, 60, 61] [40000, 40001, 40002, 40003, 40004] (ob := (True ∧ True ∧ True)) (st' := (⟨9, [(4, [], .v (.c (.p .bool (decide ((0 : Int) ≤ v4))))), (9, [], .v (.c (.p (.int .i64) i))), (10, [], .v (.c (.ptr 40000 0))), (12, [], .v (.c (.ptr 40002 0))), (13, [], .v (.c (.ptr 40003 0))), (36, [], .v (.c (.p (.sl (.sl (.int .i64))) ((q0.1.getD (i).toNat ((0 : Int), ((0 : Int), ((0 : Int), ([] : (List (List Int))))))).2.2.2)))), (37, [], .v (.c (.p (.int .i64) (((q0.1.getD (i).toNat ((0 : Int), ((0 : Int), ((0 : Int), ([] : (List (List Int))))))).2.2.2).length : Int)))), (38, [], .v (.c (.p (.int .i64) v29))), (45, [], .v (.c (.p .bool (decide ((0 : Int) < ((((q0.1.getD (i).toNat ((0 : Int), ((0 : Int), ((0 : Int), ([] : (List (List Int))))))).2.2.2).getD (v29).toNat ([] : (List Int))).length : Int)))))), (59, [], .v (.c (.ptr 40000 0))), (60, [], .v (.c (.ptr 40002 0))), (61, [], .v (.c (.ptr 40003 0)))], [(40000, [], .box [.own 40001]), (40001, [], .arr 3 (.int .i64) l400012), (40002, [], .box [.cl 69 [.pt 40000 0, .ad ⟨(.pr (.sl (.pr (.int .i64) (.pr (.int .i64) (.pr (.int .i64) (.sl (.sl (.int .i64))))))) (.int .i64)), q0⟩, .pt 40002 0, .pt 40003 0]]), (40003, [], .box [.own 40004]), (40004, [], .arr 3 (.int .i64) l400042)]⟩ : St)) (by kernel_rfl) ⟨trivial, trivial, trivial⟩ ?_
              refine awl_nil ?_
              refine thenQ_n ?_
              refine aw_ret ?_
              refine inlR_r (.v (.c (.p .bool (decide ((0 : Int) ≤ v4))))) (by kernel_rfl) rfl ?_
              refine awl_conv [.prune [0, 1, 3, 4, 27, 28, 29, 36, 40, 50, 51, 52] [40000, 40001, 40002, 40003, 40004]] (st' := (⟨50, [(0, [], .v (.c (.p (.int .i64) i))), (1, [], .v (.c (.ptr 40000 0))), (3, [], .v (.c (.ptr 40002 0))), (4, [], .v (.c (.ptr 40003 0))), (27, [], .v (.c (.p (.sl (.sl (.int .i64))) ((q0.1.getD (i).toNat ((0 : Int), ((0 : Int), ((0 : Int), ([] : (List (List Int))))))).2.2.2)))), (28, [], .v (.c (.p (.int .i64) (((q0.1.getD (i).toNat ((0 : Int), ((0 : Int), ((0 : Int), ([] : (List (List Int))))))).2.2.2).length : Int)))), (29, [], .v (.c (.p (.int .i64) v29))), (36, [], .v (.c (.p .bool (decide ((0 : Int) < ((((q0.1.getD (i).toNat ((0 : Int), ((0 : Int), ((0 : Int), ([] : (List (List Int))))))).2.2.2).getD (v29).toNat ([] : (List Int))).length : Int)))))), (40, [], .v (.c (.p .bool (decide ((0 : Int) ≤ v4))))), (50, [], .v (.c (.ptr 40000 0))), (51, [], .v (.c (.ptr 40002 0))), (52, [], .v (.c (.ptr 40003 0)))], [(40000, [], .box [.own 40001]), (40001, [], .arr 3 (.int .i64) l400012), (40002, [], .box [.cl 69 [.pt 40000 0, .ad ⟨(.pr (.sl (.pr (.int .i64) (.pr (.int .i64) (.pr (.int .i64) (.sl (.sl (.int .i64))))))) (.int .i64)), q0⟩, .pt 40002 0, .pt 40003 0]]), (40003, [], .box [.own 40004]), (40004, [], .arr 3 (.int .i64) l400042)]⟩ : St)) (by kernel_rfl) ?_
              refine awl_runp 1 [0, 1, 3, 4, 27, 28, 29, 41, 50, 51, 52] [40000, 40001, 40002, 40003, 40004] (ob := (True ∧ True)) (st' := (⟨50, [(0, [], .v (.c (.p (.int .i64) i))), (1, [], .v (.c (.ptr 40000 0))), (3, [], .v (.c (.ptr 40002 0))), (4, [], .v (.c (.ptr 40003 0))), (27, [], .v (.c (.p (.sl (.sl (.int .i64))) ((q0.1.getD (i).toNat ((0 : Int), ((0 : Int), ((0 : Int), ([] : (List (List Int))))))).2.2.2)))), (28, [], .v (.c (.p (.int .i64) (((q0.1.getD (i).toNat ((0 : Int), ((0 : Int), ((0 : Int), ([] : (List (List Int))))))).2.2.2).length : Int)))), (29, [], .v (.c (.p (.int .i64) v29))), (41, [], .v (.c (.p .bool ((decide ((0 : Int) < ((((q0.1.getD (i).toNat ((0 : Int), ((0 : Int), ((0 : Int), ([] : (List (List Int))))))).2.2.2).getD (v29).toNat ([] : (List Int))).length : Int))) && (decide ((0 : Int) ≤ v4)))))), (50, [], .v (.c (.ptr 40000 0))), (51, [], .v (.c (.ptr 40002 0))), (52, [], .v (.c (.ptr 40003 0)))], [(40000, [], .box [.own 40001]), (40001, [], .arr 3 (.int .i64) l400012), (40002, [], .box [.cl 69 [.pt 40000 0, .ad ⟨(.pr (.sl (.pr (.int .i64) (.pr (.int .i64) (.pr (.int .i64) (.sl (.sl (.int .i64))))))) (.int .i64)), q0⟩, .pt 40002 0, .pt 40003 0]]), (40003, [], .box [.own 40004]), (40004, [], .arr 3 (.int .i64) l400042)]⟩ : St)) (by kernel_rfl) ⟨trivial, trivial⟩ ?_
              refine awl_nil ?_
              refine thenQ_n ?_
              refine aw_cond (b := ((decide ((0 : Int) < ((((q0.1.getD (i).toNat ((0 : Int), ((0 : Int), ((0 : Int), ([] : (List (List Int))))))).2.2.2).getD (v29).toNat ([] : (List Int))).length : Int))) && (decide ((0 : Int) ≤ v4)))) (by kernel_rfl) (fun hb => ?_) (fun hb => ?_)
              · have h := h.1 hb
                refine aw_seq ?_
                refine aw_region ?_
                refine awl_runp 1 [6, 50, 51, 52] [40000, 40001, 40002, 40003, 40004] (ob := (True ∧ True)) (st' := (⟨50, [(6, [], .v (.c (.p .bool false))), (50, [], .v (.c (.ptr 40000 0))), (51, [], .v (.c (.ptr 40002 0))), (52, [], .v (.c (.ptr 40003 0)))], [(40000, [], .box [.own 40001]), (40001, [], .arr 3 (.int .i64) l400012), (40002, [], .box [.cl 69 [.pt 40000 0, .ad ⟨(.pr (.sl (.pr (.int .i64) (.pr (.int .i64) (.pr (.int .i64) (.sl (.sl (.int .i64))))))) (.int .i64)), q0⟩, .pt 40002 0, .pt 40003 0]]), (40003, [], .box [.own 40004]), (40004, [], .arr 3 (.int .i64) l400042)]⟩ : St)) (by kernel_rfl) ⟨trivial, trivial⟩ ?_
                refine awl_nil ?_
                refine thenQ_n ?_
                refine aw_conv [.prune [6, 50, 51, 52] [40000, 40001, 40002, 40003, 40004]] (st' := (⟨50, [(6, [], .v (.c (.p .bool false))), (50, [], .v (.c (.ptr 40000 0))), (51, [], .v (.c (.ptr 40002 0))), (52, [], .v (.c (.ptr 40003 0)))], [(40000, [], .box [.own 40001]), (40001, [], .arr 3 (.int .i64) l400012), (40002, [], .box [.cl 69 [.pt 40000 0, .ad ⟨(.pr (.sl (.pr (.int .i64) (.pr (.int .i64) (.pr (.int .i64) (.sl (.sl (.int .i64))))))) (.int .i64)), q0⟩, .pt 40002 0, .pt 40003 0]]), (40003, [], .box [.own 40004]), (40004, [], .arr 3 (.int .i64) l400042)]⟩ : St)) (by kernel_rfl) ?_
                refine aw_ret ?_
                refine blockQ_r ?_
                refine thenQ_r ?_
                refine thenQ_r ?_
                refine blockQ_r ?_
                refine thenQ_r ?_
                exact lret_r (σ := Bool × (List Int) × (List Int)) (A := fun y => .v (.c (.p .bool y.1))) (H := fun y => [(40000, [], .box [.own 40001]), (40001, [], .arr 3 (.int .i64) y.2.1), (40002, [], .box [.cl 69 [.pt 40000 0, .ad ⟨(.pr (.sl (.pr (.int .i64) (.pr (.int .i64) (.pr (.int .i64) (.sl (.sl (.int .i64))))))) (.int .i64)), q0⟩, .pt 40002 0, .pt 40003 0]]), (40003, [], .box [.own 40004]), (40004, [], .arr 3 (.int .i64) y.2.2)]) (false, l400012, l400042) (by kernel_rfl) rfl (by kernel_rfl) (by kernel_rfl) (by kernel_rfl) h
              · have h := h.2 hb
                refine aw_conv [.prune [0, 1, 3, 4, 27, 28, 29, 50, 51, 52] [40000, 40001, 40002, 40003, 40004]] (st' := (⟨50, [(0, [], .v (.c (.p (.int .i64) i))), (1, [], .v (.c (.ptr 40000 0))), (3, [], .v (.c (.ptr 40002 0))), (4, [], .v (.c (.ptr 40003 0))), (27, [], .v (.c (.p (.sl (.sl (.int .i64))) ((q0.1.getD (i).toNat ((0 : Int), ((0 : Int), ((0 : Int), ([] : (List (List Int))))))).2.2.2)))), (28, [], .v (.c (.p (.int .i64) (((q0.1.getD (i).toNat ((0 : Int), ((0 : Int), ((0 : Int), ([] : (List (List Int))))))).2.2.2).length : Int)))), (29, [], .v (.c (.p (.int .i64) v29))), (50, [], .v (.c (.ptr 40000 0))), (51, [], .v (.c (.ptr 40002 0))), (52, [], .v (.c (.ptr 40003 0)))], [(40000, [], .box [.own 40001]), (40001, [], .arr 3 (.int .i64) l400012), (40002, [], .box [.cl 69 [.pt 40000 0, .ad ⟨(.pr (.sl (.pr (.int .i64) (.pr (.int .i64) (.pr (.int .i64) (.sl (.sl (.int .i64))))))) (.int .i64)), q0⟩, .pt 40002 0, .pt 40003 0]]), (40003, [], .box [.own 40004]), (40004, [], .arr 3 (.int .i64) l400042)]⟩ : St)) (by kernel_rfl) ?_
                refine aw_skip ?_
                refine blockQ_n ?_
                exact rest2 (l400012, l400042) h
            · refine aw_seq ?_
              refine aw_region ?_
              refine awl_runp 1 [0, 1, 28, 29, 31, 32, 55, 56, 57, 64, 78, 79, 80] [40000, 40001, 40002, 40003, 40004] (ob := (True ∧ True)) (st' := (⟨19, [(0, [], .v (.c (.p (.sl (.int .i64)) ((((q0.1.getD (i).toNat ((0 : Int), ((0 : Int), ((0 : Int), ([] : (List (List Int))))))).2.2.2).getD (v29).toNat ([] : (List Int))).drop ((1 : Int)).toNat)))), (1, [], .v (.c (.cl 70 [.pt 40002 0]))), (28, [], .v (.c (.p (.int .i64) i))), (29, [], .v (.c (.ptr 40000 0))), (31, [], .v (.c (.ptr 40002 0))), (32, [], .v (.c (.ptr 40003 0))), (55, [], .v (.c (.p (.sl (.sl (.int .i64))) ((q0.1.getD (i).toNat ((0 : Int), ((0 : Int), ((0 : Int), ([] : (List (List Int))))))).2.2.2)))), (56, [], .v (.c (.p (.int .i64) (((q0.1.getD (i).toNat ((0 : Int), ((0 : Int), ((0 : Int), ([] : (List (List Int))))))).2.2.2).length : Int)))), (57, [], .v (.c (.p (.int .i64) v29))), (64, [], .v (.c (.p .bool (decide ((0 : Int) < ((((q0.1.getD (i).toNat ((0 : Int), ((0 : Int), ((0 : Int), ([] : (List (List Int))))))).2.2.2).getD (v29).toNat ([] : (List Int))).length : Int)))))), (78, [], .v (.c (.ptr 40000 0))), (79, [], .v (.c (.ptr 40002 0))), (80, [], .v (.c (.ptr 40003 0)))], [(40000, [], .box [.own 40001]), (40001, [], .arr 3 (.int .i64) l40001), (40002, [], .box [.cl 69 [.pt 40000 0, .ad ⟨(.pr (.sl (.pr (.int .i64) (.pr (.int .i64) (.pr (.int .i64) (.sl (.sl (.int .i64))))))) (.int .i64)), q0⟩, .pt 40002 0, .pt 40003 0]]), (40003, [], .box [.own 40004]), (40004, [], .arr 3 (.int .i64) l40004)]⟩ : St)) (by kernel_rfl) ⟨trivial, trivial⟩ ?_
              refine awl_nil ?_
              refine thenQ_n ?_
              refine aw_seq ?_
              refine aw_seq ?_
              refine aw_region ?_
              refine awl_runp 3 [0, 1, 7, 8, 28, 29, 31, 32, 55, 56, 57, 64, 78, 79, 80] [40000, 40001, 40002, 40003, 40004] (ob := (True ∧ True ∧ True ∧ True)) (st' := (⟨19, [(0, [], .v (.c (.p (.sl (.int .i64)) ((((q0.1.getD (i).toNat ((0 : Int), ((0 : Int), ((0 : Int), ([] : (List (List Int))))))).2.2.2).getD (v29).toNat ([] : (List Int))).drop ((1 : Int)).toNat)))), (1, [], .v (.c (.cl 70 [.pt 40002 0]))), (7, [], .v (.c (.p (.int .i64) (((((q0.1.getD (i).toNat ((0 : Int), ((0 : Int), ((0 : Int), ([] : (List (List Int))))))).2.2.2).getD (v29).toNat ([] : (List Int))).drop ((1 : Int)).toNat).length : Int)))), (8, [], .v (.c (.p (.int .i64) (0 : Int)))), (28, [], .v (.c (.p (.int .i64) i))), (29, [], .v (.c (.ptr 40000 0))), (31, [], .v (.c (.ptr 40002 0))), (32, [], .v (.c (.ptr 40003 0))), (55, [], .v (.c (.p (.sl (.sl (.int .i64))) ((q0.1.getD (i).toNat ((0 : Int), ((0 : Int), ((0 : Int), ([] : (List (List Int))))))).2.2.2)))), (56, [], .v (.c (.p (.int .i64) (((q0.1.getD (i).toNat ((0 : Int), ((0 : Int), ((0 : Int), ([] : (List (List Int))))))).2.2.2).length : Int)))), (57, [], .v (.c (.p (.int .i64) v29))), (64, [], .v (.c (.p .bool (decide ((0 : Int) < ((((q0.1.getD (i).toNat ((0 : Int), ((0 : Int), ((0 : Int), ([] : (List (List Int))))))).2.2.2).getD (v29).toNat ([] : (List Int))).length : Int)))))), (78, [], .v (.c (.ptr 40000 0))), (79, [], .v (.c (.ptr 40002 0))), (80, [], .v (.c (.ptr 40003 0)))], [(40000, [], .box [.own 40001]), (40001, [], .arr 3 (.int .i64) l40001), (40002, [], .box [.cl 69 [.pt 40000 0, .ad ⟨(.pr (.sl (.pr (.int .i64) (.pr (.int .i64) (.pr (.int .i64) (.sl (.sl (.int .i64))))))) (.int .i64)), q0⟩, .pt 40002 0, .pt 40003 0]]), (40003, [], .box [.own 40004]), (40004, [], .arr 3 (.int .i64) l40004)]⟩ : St)) (by kernel_rfl) ⟨trivial, trivial, trivial, trivial⟩ ?_
              refine awl_nil ?_
              refine thenQ_n ?_
              refine withJoin (σ := (List Int) × (List Int)) (fun s => (⟨19, [(28, [], .v (.c (.p (.int .i64) i))), (29, [], .v (.c (.ptr 40000 0))), (31, [], .v (.c (.ptr 40002 0))), (32, [], .v (.c (.ptr 40003 0))), (55, [], .v (.c (.p (.sl (.sl (.int .i64))) ((q0.1.getD (i).toNat ((0 : Int), ((0 : Int), ((0 : Int), ([] : (List (List Int))))))).2.2.2)))), (56, [], .v (.c (.p (.int .i64) (((q0.1.getD (i).toNat ((0 : Int), ((0 : Int), ((0 : Int), ([] : (List (List Int))))))).2.2.2).length : Int)))), (57, [], .v (.c (.p (.int .i64) v29))), (64, [], .v (.c (.p .bool (decide ((0 : Int) < ((((q0.1.getD (i).toNat ((0 : Int), ((0 : Int), ((0 : Int), ([] : (List (List Int))))))).2.2.2).getD (v29).toNat ([] : (List Int))).length : Int)))))), (78, [], .v (.c (.ptr 40000 0))), (79, [], .v (.c (.ptr 40002 0))), (80, [], .v (.c (.ptr 40003 0)))], [(40000, [], .box [.own 40001]), (40001, [], .arr 3 (.int .i64) s.1), (40002, [], .box [.cl 69 [.pt 40000 0, .ad ⟨(.pr (.sl (.pr (.int .i64) (.pr (.int .i64) (.pr (.int .i64) (.sl (.sl (.int .i64))))))) (.int .i64)), q0⟩, .pt 40002 0, .pt 40003 0]]), (40003, [], .box [.own 40004]), (40004, [], .arr 3 (.int .i64) s.2)]⟩ : St)) (fun s => VCc69_k4 q0 i K v29 X1 s.1 s.2) (fun s h => ?_) (fun rest4 => ?_)
              · obtain ⟨l400012, l400042⟩ := s
                have h : VCc69_k4 q0 i K v29 X1 l400012 l400042 := h
                unfold VCc69_k4 at h
                refine thenQ_n ?_
                refine aw_seq ?_
                refine aw_region ?_
                refine awl_runp 1 [4, 28, 29, 31, 32, 55, 56, 57, 64, 78, 79, 80] [40000, 40001, 40002, 40003, 40004] (ob := (True ∧ True)) (st' := (⟨19, [(4, [], .v (.c (.p (.int .i64) (-1 : Int)))), (28, [], .v (.c (.p (.int .i64) i))), (29, [], .v (.c (.ptr 40000 0))), (31, [], .v (.c (.ptr 40002 0))), (32, [], .v (.c (.ptr 40003 0))), (55, [], .v (.c (.p (.sl (.sl (.int .i64))) ((q0.1.getD (i).toNat ((0 : Int), ((0 : Int), ((0 : Int), ([] : (List (List Int))))))).2.2.2)))), (56, [], .v (.c (.p (.int .i64) (((q0.1.getD (i).toNat ((0 : Int), ((0 : Int), ((0 : Int), ([] : (List (List Int))))))).2.2.2).length : Int)))), (57, [], .v (.c (.p (.int .i64) v29))), (64, [], .v (.c (.p .bool (decide ((0 : Int) < ((((q0.1.getD (i).toNat ((0 : Int), ((0 : Int), ((0 : Int), ([] : (List (List Int))))))).2.2.2).getD (v29).toNat ([] : (List Int))).length : Int)))))), (78, [], .v (.c (.ptr 40000 0))), (79, [], .v (.c (.ptr 40002 0))), (80, [], .v (.c (.ptr 40003 0)))], [(40000, [], .box [.own 40001]), (40001, [], .arr 3 (.int .i64) l400012), (40002, [], .box [.cl 69 [.pt 40000 0, .ad ⟨(.pr (.sl (.pr (.int .i64) (.pr (.int .i64) (.pr (.int .i64) (.sl (.sl (.int .i64))))))) (.int .i64)), q0⟩, .pt 40002 0, .pt 40003 0]]), (40003, [], .box [.own 40004]), (40004, [], .arr 3 (.int .i64) l400042)]⟩ : St)) (by kernel_rfl) ⟨trivial, trivial⟩ ?_
                refine awl_nil ?_
                refine thenQ_n ?_
                refine aw_ret ?_
                exact rest3 ((-1 : Int), l400012, l400042) h
              · refine aw_block ?_
                refine aw_loop (σ := Int × (List Int) × (List Int)) (fun s => (⟨19, [(0, [], .v (.c (.p (.sl (.int .i64)) ((((q0.1.getD (i).toNat ((0 : Int), ((0 : Int), ((0 : Int), ([] : (List (List Int))))))).2.2.2).getD (v29).toNat ([] : (List Int))).drop ((1 : Int)).toNat)))), (1, [], .v (.c (.cl 70 [.pt 40002 0]))), (7, [], .v (.c (.p (.int .i64) (((((q0.1.getD (i).toNat ((0 : Int), ((0 : Int), ((0 : Int), ([] : (List (List Int))))))).2.2.2).getD (v29).toNat ([] : (List Int))).drop ((1 : Int)).toNat).length : Int)))), (8, [], .v (.c (.p (.int .i64) s.1))), (28, [], .v (.c (.p (.int .i64) i))), (29, [], .v (.c (.ptr 40000 0))), (31, [], .v (.c (.ptr 40002 0))), (32, [], .v (.c (.ptr 40003 0))), (55, [], .v (.c (.p (.sl (.sl (.int .i64))) ((q0.1.getD (i).toNat ((0 : Int), ((0 : Int), ((0 : Int), ([] : (List (List Int))))))).2.2.2)))), (56, [], .v (.c (.p (.int .i64) (((q0.1.getD (i).toNat ((0 : Int), ((0 : Int), ((0 : Int), ([] : (List (List Int))))))).2.2.2).length : Int)))), (57, [], .v (.c (.p (.int .i64) v29))), (64, [], .v (.c (.p .bool (decide ((0 : Int) < ((((q0.1.getD (i).toNat ((0 : Int), ((0 : Int), ((0 : Int), ([] : (List (List Int))))))).2.2.2).getD (v29).toNat ([] : (List Int))).length : Int)))))), (78, [], .v (.c (.ptr 40000 0))), (79, [], .v (.c (.ptr 40002 0))), (80, [], .v (.c (.ptr 40003 0)))], [(40000, [], .box [.own 40001]), (40001, [], .arr 3 (.int .i64) s.2.1), (40002, [], .box [.cl 69 [.pt 40000 0, .ad ⟨(.pr (.sl (.pr (.int .i64) (.pr (.int .i64) (.pr (.int .i64) (.sl (.sl (.int .i64))))))) (.int .i64)), q0⟩, .pt 40002 0, .pt 40003 0]]), (40003, [], .box [.own 40004]), (40004, [], .arr 3 (.int .i64) s.2.2)]⟩ : St)) (fun s X => VCc69_l2 q0 R i K v29 X1 s.1 s.2.1 s.2.2 X) (s0 := ((0 : Int), l40001, l40004)) (fun s X2 h => ?_) h
                obtain ⟨v8, l400012, l400042⟩ := s
                have h : VCc69_l2 q0 R i K v29 X1 v8 l400012 l400042 X2 := h
                unfold VCc69_l2 at h
                refine aw_seq ?_
                refine aw_region ?_
                refine awl_runp 1 [0, 1, 7, 8, 9, 28, 29, 31, 32, 55, 56, 57, 64, 78, 79, 80] [40000, 40001, 40002, 40003, 40004] (ob := (True ∧ True)) (st' := (⟨19, [(0, [], .v (.c (.p (.sl (.int .i64)) ((((q0.1.getD (i).toNat ((0 : Int), ((0 : Int), ((0 : Int), ([] : (List (List Int))))))).2.2.2).getD (v29).toNat ([] : (List Int))).drop ((1 : Int)).toNat)))), (1, [], .v (.c (.cl 70 [.pt 40002 0]))), (7, [], .v (.c (.p (.int .i64) (((((q0.1.getD (i).toNat ((0 : Int), ((0 : Int), ((0 : Int), ([] : (List (List Int))))))).2.2.2).getD (v29).toNat ([] : (List Int))).drop ((1 : Int)).toNat).length : Int)))), (8, [], .v (.c (.p (.int .i64) v8))), (9, [], .v (.c (.p .bool (decide (v8 < (((((q0.1.getD (i).toNat ((0 : Int), ((0 : Int), ((0 : Int), ([] : (List (List Int))))))).2.2.2).getD (v29).toNat ([] : (List Int))).drop ((1 : Int)).toNat).length : Int)))))), (28, [], .v (.c (.p (.int .i64) i))), (29, [], .v (.c (.ptr 40000 0))), (31, [], .v (.c (.ptr 40002 0))), (32, [], .v (.c (.ptr 40003 0))), (55, [], .v (.c (.p (.sl (.sl (.int .i64))) ((q0.1.getD (i).toNat ((0 : Int), ((0 : Int), ((0 : Int), ([] : (List (List Int))))))).2.2.2)))), (56, [], .v (.c (.p (.int .i64) (((q0.1.getD (i).toNat ((0 : Int), ((0 : Int), ((0 : Int), ([] : (List (List Int))))))).2.2.2).length : Int)))), (57, [], .v (.c (.p (.int .i64) v29))), (64, [], .v (.c (.p .bool (decide ((0 : Int) < ((((q0.1.getD (i).toNat ((0 : Int), ((0 : Int), ((0 : Int), ([] : (List (List Int))))))).2.2.2).getD (v29).toNat ([] : (List Int))).length : Int)))))), (78, [], .v (.c (.ptr 40000 0))), (79, [], .v (.c (.ptr 40002 0))), (80, [], .v (.c (.ptr 40003 0)))], [(40000, [], .box [.own 40001]), (40001, [], .arr 3 (.int .i64) l400012), (40002, [], .box [.cl 69 [.pt 40000 0, .ad ⟨(.pr (.sl (.pr (.int .i64) (.pr (.int .i64) (.pr (.int .i64) (.sl (.sl (.int .i64))))))) (.int .i64)), q0⟩, .pt 40002 0, .pt 40003 0]]), (40003, [], .box [.own 40004]), (40004, [], .arr 3 (.int .i64) l400042)]⟩ : St)) (by kernel_rfl) ⟨trivial, trivial⟩ ?_
                refine awl_nil ?_
                refine thenQ_n ?_
                refine aw_seq ?_
                refine aw_cond (b := (decide (v8 < (((((q0.1.getD (i).toNat ((0 : Int), ((0 : Int), ((0 : Int), ([] : (List (List Int))))))).2.2.2).getD (v29).toNat ([] : (List Int))).drop ((1 : Int)).toNat).length : Int)))) (by kernel_rfl) (fun hb => ?_) (fun hb => ?_)
                · have h := h.1 hb
                  refine aw_skip ?_
                  refine thenQ_n ?_
                  refine aw_seq ?_
                  refine aw_block ?_
                  refine aw_seq ?_
                  refine aw_region ?_
                  refine awl_runp 2 [0, 1, 5, 7, 8, 28, 29, 31, 32, 55, 56, 57, 64, 78, 79, 80] [40000, 40001, 40002, 40003, 40004] (ob := (True ∧ True ∧ True)) (st' := (⟨19, [(0, [], .v (.c (.p (.sl (.int .i64)) ((((q0.1.getD (i).toNat ((0 : Int), ((0 : Int), ((0 : Int), ([] : (List (List Int))))))).2.2.2).getD (v29).toNat ([] : (List Int))).drop ((1 : Int)).toNat)))), (1, [], .v (.c (.cl 70 [.pt 40002 0]))), (5, [], .v (.c (.p (.int .i64) v8))), (7, [], .v (.c (.p (.int .i64) (((((q0.1.getD (i).toNat ((0 : Int), ((0 : Int), ((0 : Int), ([] : (List (List Int))))))).2.2.2).getD (v29).toNat ([] : (List Int))).drop ((1 : Int)).toNat).length : Int)))), (8, [], .v (.c (.p (.int .i64) v8))), (28, [], .v (.c (.p (.int .i64) i))), (29, [], .v (.c (.ptr 40000 0))), (31, [], .v (.c (.ptr 40002 0))), (32, [], .v (.c (.ptr 40003 0))), (55, [], .v (.c (.p (.sl (.sl (.int .i64))) ((q0.1.getD (i).toNat ((0 : Int), ((0 : Int), ((0 : Int), ([] : (List (List Int))))))).2.2.2)))), (56, [], .v (.c (.p (.int .i64) (((q0.1.getD (i).toNat ((0 : Int), ((0 : Int), ((0 : Int), ([] : (List (List Int))))))).2.2.2).length : Int)))), (57, [], .v (.c (.p (.int .i64) v29))), (64, [], .v (.c (.p .bool (decide ((0 : Int) < ((((q0.1.getD (i).toNat ((0 : Int), ((0 : Int), ((0 : Int), ([] : (List (List Int))))))).2.2.2).getD (v29).toNat ([] : (List Int))).length : Int)))))), (78, [], .v (.c (.ptr 40000 0))), (79, [], .v (.c (.ptr 40002 0))), (80, [], .v (.c (.ptr 40003 0)))], [(40000, [], .box [.own 40001]), (40001, [], .arr 3 (.int .i64) l400012), (40002, [], .box [.cl 69 [.pt 40000 0, .ad ⟨(.pr (.sl (.pr (.int .i64) (.pr (.int .i64) (.pr (.int .i64) (.sl (.sl (.int .i64))))))) (.int .i64)), q0⟩, .pt 40002 0, .pt 40003 0]]), (40003, [], .box [.own 40004]), (40004, [], .arr 3 (.int .i64) l400042)]⟩ : St)) (by kernel_rfl) ⟨trivial, trivial, trivial⟩ ?_
                  refine awl_nil ?_
                  refine thenQ_n ?_
                  refine aw_seq ?_
                  refine aw_region ?_
                  obtain ⟨o1, h⟩ := h
                  refine awl_runp 5 [0, 1, 5, 7, 8, 11, 15, 28, 29, 31, 32, 55, 56, 57, 64, 78, 79, 80] [40000, 40001, 40002, 40003, 40004] (ob := (True ∧ True ∧ True ∧ inIdx v8 ((((q0.1.getD (i).toNat ((0 : Int), ((0 : Int), ((0 : Int), ([] : (List (List Int))))))).2.2.2).getD (v29).toNat ([] : (List Int))).drop ((1 : Int)).toNat).length ∧ True ∧ True)) (st' := (⟨19, [(0, [], .v (.c (.p (.sl (.int .i64)) ((((q0.1.getD (i).toNat ((0 : Int), ((0 : Int), ((0 : Int), ([] : (List (List Int))))))).2.2.2).getD (v29).toNat ([] : (List Int))).drop ((1 : Int)).toNat)))), (1, [], .v (.c (.cl 70 [.pt 40002 0]))), (5, [], .v (.c (.p (.int .i64) v8))), (7, [], .v (.c (.p (.int .i64) (((((q0.1.getD (i).toNat ((0 : Int), ((0 : Int), ((0 : Int), ([] : (List (List Int))))))).2.2.2).getD (v29).toNat ([] : (List Int))).drop ((1 : Int)).toNat).length : Int)))), (8, [], .v (.c (.p (.int .i64) v8))), (11, [], .v (.c (.cl 70 [.pt 40002 0]))), (15, [], .v (.c (.p (.int .i64) (((((q0.1.getD (i).toNat ((0 : Int), ((0 : Int), ((0 : Int), ([] : (List (List Int))))))).2.2.2).getD (v29).toNat ([] : (List Int))).drop ((1 : Int)).toNat).getD (v8).toNat (0 : Int))))), (28, [], .v (.c (.p (.int .i64) i))), (29, [], .v (.c (.ptr 40000 0))), (31, [], .v (.c (.ptr 40002 0))), (32, [], .v (.c (.ptr 40003 0))), (55, [], .v (.c (.p (.sl (.sl (.int .i64))) ((q0.1.getD (i).toNat ((0 : Int), ((0 : Int), ((0 : Int), ([] : (List (List Int))))))).2.2.2)))), (56, [], .v (.c (.p (.int .i64) (((q0.1.getD (i).toNat ((0 : Int), ((0 : Int), ((0 : Int), ([] : (List (List Int))))))).2.2.2).length : Int)))), (57, [], .v (.c (.p (.int .i64) v29))), (64, [], .v (.c (.p .bool (decide ((0 : Int) < ((((q0.1.getD (i).toNat ((0 : Int), ((0 : Int), ((0 : Int), ([] : (List (List Int))))))).2.2.2).getD (v29).toNat ([] : (List Int))).length : Int)))))), (78, [], .v (.c (.ptr 40000 0))), (79, [], .v (.c (.ptr 40002 0))), (80, [], .v (.c (.ptr 40003 0)))], [(40000, [], .box [.own 40001]), (40001, [], .arr 3 (.int .i64) l400012), (40002, [], .box [.cl 69 [.pt 40000 0, .ad ⟨(.pr (.sl (.pr (.int .i64) (.pr (.int .i64) (.pr (.int .i64) (.sl (.sl (.int .i64))))))) (.int .i64)), q0⟩, .pt 40002 0, .pt 40003 0]]), (40003, [], .box [.own 40004]), (40004, [], .arr 3 (.int .i64) l400042)]⟩ : St)) (by kernel_rfl) ⟨trivial, trivial, trivial, o1, trivial, trivial⟩ ?_
                  refine awl_inlr [3] [40000, 40001, 40002, 40003, 40004] [.c (.p (.int .i64) (((((q0.1.getD (i).toNat ((0 : Int), ((0 : Int), ((0 : Int), ([] : (List (List Int))))))).2.2.2).getD (v29).toNat ([] : (List Int))).drop ((1 : Int)).toNat).getD (v8).toNat (0 : Int)))] [.c (.ptr 40002 0)] rfl rfl (by kernel_rfl) rfl (by kernel_rfl) Try.call70 (by kernel_rfl) (by kernel_rfl) Try.func70 rfl rfl (by kernel_rfl) ?_
                  refine aw_conv [] (st' := (⟨8, [(0, [], .v (.c (.p (.int .i64) (((((q0.1.getD (i).toNat ((0 : Int), ((0 : Int), ((0 : Int), ([] : (List (List Int))))))).2.2.2).getD (v29).toNat ([] : (List Int))).drop ((1 : Int)).toNat).getD (v8).toNat (0 : Int))))), (1, [], .v (.c (.ptr 40002 0))), (8, [], .v (.c (.p (.sl (.int .i64)) ((((q0.1.getD (i).toNat ((0 : Int), ((0 : Int), ((0 : Int), ([] : (List (List Int))))))).2.2.2).getD (v29).toNat ([] : (List Int))).drop ((1 : Int)).toNat)))), (9, [], .v (.c (.cl 70 [.pt 40002 0]))), (13, [], .v (.c (.p (.int .i64) v8))), (15, [], .v (.c (.p (.int .i64) (((((q0.1.getD (i).toNat ((0 : Int), ((0 : Int), ((0 : Int), ([] : (List (List Int))))))).2.2.2).getD (v29).toNat ([] : (List Int))).drop ((1 : Int)).toNat).length : Int)))), (16, [], .v (.c (.p (.int .i64) v8))), (19, [], .v (.c (.cl 70 [.pt 40002 0]))), (23, [], .v (.c (.p (.int .i64) (((((q0.1.getD (i).toNat ((0 : Int), ((0 : Int), ((0 : Int), ([] : (List (List Int))))))).2.2.2).getD (v29).toNat ([] : (List Int))).drop ((1 : Int)).toNat).getD (v8).toNat (0 : Int))))), (36, [], .v (.c (.p (.int .i64) i))), (37, [], .v (.c (.ptr 40000 0))), (39, [], .v (.c (.ptr 40002 0))), (40, [], .v (.c (.ptr 40003 0))), (63, [], .v (.c (.p (.sl (.sl (.int .i64))) ((q0.1.getD (i).toNat ((0 : Int), ((0 : Int), ((0 : Int), ([] : (List (List Int))))))).2.2.2)))), (64, [], .v (.c (.p (.int .i64) (((q0.1.getD (i).toNat ((0 : Int), ((0 : Int), ((0 : Int), ([] : (List (List Int))))))).2.2.2).length : Int)))), (65, [], .v (.c (.p (.int .i64) v29))), (72, [], .v (.c (.p .bool (decide ((0 : Int) < ((((q0.1.getD (i).toNat ((0 : Int), ((0 : Int), ((0 : Int), ([] : (List (List Int))))))).2.2.2).getD (v29).toNat ([] : (List Int))).length : Int)))))), (86, [], .v (.c (.ptr 40000 0))), (87, [], .v (.c (.ptr 40002 0))), (88, [], .v (.c (.ptr 40003 0)))], [(40000, [], .box [.own 40001]), (40001, [], .arr 3 (.int .i64) l400012), (40002, [], .box [.cl 69 [.pt 40000 0, .ad ⟨(.pr (.sl (.pr (.int .i64) (.pr (.int .i64) (.pr (.int .i64) (.sl (.sl (.int .i64))))))) (.int .i64)), q0⟩, .pt 40002 0, .pt 40003 0]]), (40003, [], .box [.own 40004]), (40004, [], .arr 3 (.int .i64) l400042)]⟩ : St)) (by kernel_rfl) ?_
                  refine aw_seq ?_
                  refine aw_region ?_
                  refine awl_runp 1 [0, 1, 8, 9, 13, 15, 16, 36, 37, 39, 40, 63, 64, 65, 72, 86, 87, 88] [40000, 40001, 40002, 40003, 40004] (ob := (True ∧ True)) (st' := (⟨8, [(0, [], .v (.c (.p (.int .i64) (((((q0.1.getD (i).toNat ((0 : Int), ((0 : Int), ((0 : Int), ([] : (List (List Int))))))).2.2.2).getD (v29).toNat ([] : (List Int))).drop ((1 : Int)).toNat).getD (v8).toNat (0 : Int))))), (1, [], .v (.c (.ptr 40002 0))), (8, [], .v (.c (.p (.sl (.int .i64)) ((((q0.1.getD (i).toNat ((0 : Int), ((0 : Int), ((0 : Int), ([] : (List (List Int))))))).2.2.2).getD (v29).toNat ([] : (List Int))).drop ((1 : Int)).toNat)))), (9, [], .v (.c (.cl 70 [.pt 40002 0]))), (13, [], .v (.c (.p (.int .i64) v8))), (15, [], .v (.c (.p (.int .i64) (((((q0.1.getD (i).toNat ((0 : Int), ((0 : Int), ((0 : Int), ([] : (List (List Int))))))).2.2.2).getD (v29).toNat ([] : (List Int))).drop ((1 : Int)).toNat).length : Int)))), (16, [], .v (.c (.p (.int .i64) v8))), (36, [], .v (.c (.p (.int .i64) i))), (37, [], .v (.c (.ptr 40000 0))), (39, [], .v (.c (.ptr 40002 0))), (40, [], .v (.c (.ptr 40003 0))), (63, [], .v (.c (.p (.sl (.sl (.int .i64))) ((q0.1.getD (i).toNat ((0 : Int), ((0 : Int), ((0 : Int), ([] : (List (List Int))))))).2.2.2)))), (64, [], .v (.c (.p (.int .i64) (((q0.1.getD (i).toNat ((0 : Int), ((0 : Int), ((0 : Int), ([] : (List (List Int))))))).2.2.2).length : Int)))), (65, [], .v (.c (.p (.int .i64) v29))), (72, [], .v (.c (.p .bool (decide ((0 : Int) < ((((q0.1.getD (i).toNat ((0 : Int), ((0 : Int), ((0 : Int), ([] : (List (List Int))))))).2.2.2).getD (v29).toNat ([] : (List Int))).length : Int)))))), (86, [], .v (.c (.ptr 40000 0))), (87, [], .v (.c (.ptr 40002 0))), (88, [], .v (.c (.ptr 40003 0)))], [(40000, [], .box [.own 40001]), (40001, [], .arr 3 (.int .i64) l400012), (40002, [], .box [.cl 69 [.pt 40000 0, .ad ⟨(.pr (.sl (.pr (.int .i64) (.pr (.int .i64) (.pr (.int .i64) (.sl (.sl (.int .i64))))))) (.int .i64)), q0⟩, .pt 40002 0, .pt 40003 0]]), (40003, [], .box [.own 40004]), (40004, [], .arr 3 (.int .i64) l400042)]⟩ : St)) (by kernel_rfl) ⟨trivial, trivial⟩ ?_
                  refine awl_nil ?_
                  refine thenQ_n ?_
                  refine aw_seq ?_
                  refine aw_region ?_
                  refine awl_runp 2 [4, 5, 8, 9, 13, 15, 16, 36, 37, 39, 40, 63, 64, 65, 72, 86, 87, 88] [40000, 40001, 40002, 40003, 40004] (ob := (True ∧ True ∧ True)) (st' := (⟨8, [(4, [], .v (.c (.cl 69 [.pt 40000 0, .ad ⟨(.pr (.sl (.pr (.int .i64) (.pr (.int .i64) (.pr (.int .i64) (.sl (.sl (.int .i64))))))) (.int .i64)), q0⟩, .pt 40002 0, .pt 40003 0]))), (5, [], .v (.c (.p (.int .i64) (((((q0.1.getD (i).toNat ((0 : Int), ((0 : Int), ((0 : Int), ([] : (List (List Int))))))).2.2.2).getD (v29).toNat ([] : (List Int))).drop ((1 : Int)).toNat).getD (v8).toNat (0 : Int))))), (8, [], .v (.c (.p (.sl (.int .i64)) ((((q0.1.getD (i).toNat ((0 : Int), ((0 : Int), ((0 : Int), ([] : (List (List Int))))))).2.2.2).getD (v29).toNat ([] : (List Int))).drop ((1 : Int)).toNat)))), (9, [], .v (.c (.cl 70 [.pt 40002 0]))), (13, [], .v (.c (.p (.int .i64) v8))), (15, [], .v (.c (.p (.int .i64) (((((q0.1.getD (i).toNat ((0 : Int), ((0 : Int), ((0 : Int), ([] : (List (List Int))))))).2.2.2).getD (v29).toNat ([] : (List Int))).drop ((1 : Int)).toNat).length : Int)))), (16, [], .v (.c (.p (.int .i64) v8))), (36, [], .v (.c (.p (.int .i64) i))), (37, [], .v (.c (.ptr 40000 0))), (39, [], .v (.c (.ptr 40002 0))), (40, [], .v (.c (.ptr 40003 0))), (63, [], .v (.c (.p (.sl (.sl (.int .i64))) ((q0.1.getD (i).toNat ((0 : Int), ((0 : Int), ((0 : Int), ([] : (List (List Int))))))).2.2.2)))), (64, [], .v (.c (.p (.int .i64) (((q0.1.getD (i).toNat ((0 : Int), ((0 : Int), ((0 : Int), ([] : (List (List Int))))))).2.2.2).length : Int)))), (65, [], .v (.c (.p (.int .i64) v29))), (72, [], .v (.c (.p .bool (decide ((0 : Int) < ((((q0.1.getD (i).toNat ((0 : Int), ((0 : Int), ((0 : Int), ([] : (List (List Int))))))).2.2.2).getD (v29).toNat ([] : (List Int))).length : Int)))))), (86, [], .v (.c (.ptr 40000 0))), (87, [], .v (.c (.ptr 40002 0))), (88, [], .v (.c (.ptr 40003 0)))], [(40000, [], .box [.own 40001]), (40001, [], .arr 3 (.int .i64) l400012), (40002, [], .box [.cl 69 [.pt 40000 0, .ad ⟨(.pr (.sl (.pr (.int .i64) (.pr (.int .i64) (.pr (.int .i64) (.sl (.sl (.int .i64))))))) (.int .i64)), q0⟩, .pt 40002 0, .pt 40003 0]]), (40003, [], .box [.own 40004]), (40004, [], .arr 3 (.int .i64) l400042)]⟩ : St)) (by kernel_rfl) ⟨trivial, trivial, trivial⟩ ?_
                  refine awl_lcall (σ := Bool × (List Int) × (List Int)) [40000, 40001, 40002, 40003, 40004] [40000, 40002, 40003] [.c (.p (.int .i64) (((((q0.1.getD (i).toNat ((0 : Int), ((0 : Int), ((0 : Int), ([] : (List (List Int))))))).2.2.2).getD (v29).toNat ([] : (List Int))).drop ((1 : Int)).toNat).getD (v8).toNat (0 : Int)))] [.c (.ptr 40000 0), .c (.ad (.pr (.sl (.pr (.int .i64) (.pr (.int .i64) (.pr (.int .i64) (.sl (.sl (.int .i64))))))) (.int .i64)) q0), .c (.ptr 40002 0), .c (.ptr 40003 0)] (fun ret6v => .v (.c (.p .bool ret6v.1))) (fun ret6v => [(40000, [], .box [.own 40001]), (40001, [], .arr 3 (.int .i64) ret6v.2.1), (40002, [], .box [.cl 69 [.pt 40000 0, .ad ⟨(.pr (.sl (.pr (.int .i64) (.pr (.int .i64) (.pr (.int .i64) (.sl (.sl (.int .i64))))))) (.int .i64)), q0⟩, .pt 40002 0, .pt 40003 0]]), (40003, [], .box [.own 40004]), (40004, [], .arr 3 (.int .i64) ret6v.2.2)]) (fun (ret6v : Bool × (List Int) × (List Int)) => (((!ret6v.1) = true → VCc69_k3 q0 i K v29 X1 v8 ret6v.2.1 ret6v.2.2) ∧ ((!ret6v.1) = false → (InR (v8 + (1 : Int)) ∧ X2 ((v8 + (1 : Int)), ret6v.2.1, ret6v.2.2))))) [(40000, [], .box [.own 40001]), (40001, [], .arr 3 (.int .i64) l400012), (40002, [], .box [.cl 69 [.pt 40000 0, .ad ⟨(.pr (.sl (.pr (.int .i64) (.pr (.int .i64) (.pr (.int .i64) (.sl (.sl (.int .i64))))))) (.int .i64)), q0⟩, .pt 40002 0, .pt 40003 0]]), (40003, [], .box [.own 40004]), (40004, [], .arr 3 (.int .i64) l400042)] (fun ret6v => (⟨8, [(6, [], .v (.c (.p .bool ret6v.1))), (4, [], .v (.c (.cl 69 [.pt 40000 0, .ad ⟨(.pr (.sl (.pr (.int .i64) (.pr (.int .i64) (.pr (.int .i64) (.sl (.sl (.int .i64))))))) (.int .i64)), q0⟩, .pt 40002 0, .pt 40003 0]))), (5, [], .v (.c (.p (.int .i64) (((((q0.1.getD (i).toNat ((0 : Int), ((0 : Int), ((0 : Int), ([] : (List (List Int))))))).2.2.2).getD (v29).toNat ([] : (List Int))).drop ((1 : Int)).toNat).getD (v8).toNat (0 : Int))))), (8, [], .v (.c (.p (.sl (.int .i64)) ((((q0.1.getD (i).toNat ((0 : Int), ((0 : Int), ((0 : Int), ([] : (List (List Int))))))).2.2.2).getD (v29).toNat ([] : (List Int))).drop ((1 : Int)).toNat)))), (9, [], .v (.c (.cl 70 [.pt 40002 0]))), (13, [], .v (.c (.p (.int .i64) v8))), (15, [], .v (.c (.p (.int .i64) (((((q0.1.getD (i).toNat ((0 : Int), ((0 : Int), ((0 : Int), ([] : (List (List Int))))))).2.2.2).getD (v29).toNat ([] : (List Int))).drop ((1 : Int)).toNat).length : Int)))), (16, [], .v (.c (.p (.int .i64) v8))), (36, [], .v (.c (.p (.int .i64) i))), (37, [], .v (.c (.ptr 40000 0))), (39, [], .v (.c (.ptr 40002 0))), (40, [], .v (.c (.ptr 40003 0))), (63, [], .v (.c (.p (.sl (.sl (.int .i64))) ((q0.1.getD (i).toNat ((0 : Int), ((0 : Int), ((0 : Int), ([] : (List (List Int))))))).2.2.2)))), (64, [], .v (.c (.p (.int .i64) (((q0.1.getD (i).toNat ((0 : Int), ((0 : Int), ((0 : Int), ([] : (List (List Int))))))).2.2.2).length : Int)))), (65, [], .v (.c (.p (.int .i64) v29))), (72, [], .v (.c (.p .bool (decide ((0 : Int) < ((((q0.1.getD (i).toNat ((0 : Int), ((0 : Int), ((0 : Int), ([] : (List (List Int))))))).2.2.2).getD (v29).toNat ([] : (List Int))).length : Int)))))), (86, [], .v (.c (.ptr 40000 0))), (87, [], .v (.c (.ptr 40002 0))), (88, [], .v (.c (.ptr 40003 0)))], [(40000, [], .box [.own 40001]), (40001, [], .arr 3 (.int .i64) ret6v.2.1), (40002, [], .box [.cl 69 [.pt 40000 0, .ad ⟨(.pr (.sl (.pr (.int .i64) (.pr (.int .i64) (.pr (.int .i64) (.sl (.sl (.int .i64))))))) (.int .i64)), q0⟩, .pt 40002 0, .pt 40003 0]]), (40003, [], .box [.own 40004]), (40004, [], .arr 3 (.int .i64) ret6v.2.2)]⟩ : St)) rfl rfl (by kernel_rfl) rfl (by kernel_rfl) Try.call69 (by kernel_rfl) (by kernel_rfl) (by kernel_rfl) (fun _ _ => rfl) (fun _ => by kernel_rfl) (hR (((((q0.1.getD (i).toNat ((0 : Int), ((0 : Int), ((0 : Int), ([] : (List (List Int))))))).2.2.2).getD (v29).toNat ([] : (List Int))).drop ((1 : Int)).toNat).getD (v8).toNat (0 : Int)) l400012 l400042 _ h) (fun ret6v h => ?_)
                  have h : (((!ret6v.1) = true → VCc69_k3 q0 i K v29 X1 v8 ret6v.2.1 ret6v.2.2) ∧ ((!ret6v.1) = false → (InR (v8 + (1 : Int)) ∧ X2 ((v8 + (1 : Int)), ret6v.2.1, ret6v.2.2)))) := h
                  refine awl_conv [.prune [6, 8, 9, 13, 15, 16, 36, 37, 39, 40, 63, 64, 65, 72, 86, 87, 88] [40000, 40001, 40002, 40003, 40004]] (st' := (⟨8, [(6, [], .v (.c (.p .bool ret6v.1))), (8, [], .v (.c (.p (.sl (.int .i64)) ((((q0.1.getD (i).toNat ((0 : Int), ((0 : Int), ((0 : Int), ([] : (List (List Int))))))).2.2.2).getD (v29).toNat ([] : (List Int))).drop ((1 : Int)).toNat)))), (9, [], .v (.c (.cl 70 [.pt 40002 0]))), (13, [], .v (.c (.p (.int .i64) v8))), (15, [], .v (.c (.p (.int .i64) (((((q0.1.getD (i).toNat ((0 : Int), ((0 : Int), ((0 : Int), ([] : (List (List Int))))))).2.2.2).getD (v29).toNat ([] : (List Int))).drop ((1 : Int)).toNat).length : Int)))), (16, [], .v (.c (.p (.int .i64) v8))), (36, [], .v (.c (.p (.int .i64) i))), (37, [], .v (.c (.ptr 40000 0))), (39, [], .v (.c (.ptr 40002 0))), (40, [], .v (.c (.ptr 40003 0))), (63, [], .v (.c (.p (.sl (.sl (.int .i64))) ((q0.1.getD (i).toNat ((0 : Int), ((0 : Int), ((0 : Int), ([] : (List (List Int))))))).2.2.2)))), (64, [], .v (.c (.p (.int .i64) (((q0.1.getD (i).toNat ((0 : Int), ((0 : Int), ((0 : Int), ([] : (List (List Int))))))).2.2.2).length : Int)))), (65, [], .v (.c (.p (.int .i64) v29))), (72, [], .v (.c (.p .bool (decide ((0 : Int) < ((((q0.1.getD (i).toNat ((0 : Int), ((0 : Int), ((0 : Int), ([] : (List (List Int))))))).2.2.2).getD (v29).toNat ([] : (List Int))).length : Int)))))), (86, [], .v (.c (.ptr 40000 0))), (87, [], .v (.c (.ptr 40002 0))), (88, [], .v (.c (.ptr 40003 0)))], [(40000, [], .box [.own 40001]), (40001, [], .arr 3 (.int .i64) ret6v.2.1), (40002, [], .box [.cl 69 [.pt 40000 0, .ad ⟨(.pr (.sl (.pr (.int .i64) (.pr (.int .i64) (.pr (.int .i64) (.sl (.sl (.int .i64))))))) (.int .i64)), q0⟩, .pt 40002 0, .pt 40003 0]]), (40003, [], .box [.own 40004]), (40004, [], .arr 3 (.int .i64) ret6v.2.2)]⟩ : St)) (by kernel_rfl) ?_
                  refine awl_runp 2 [3, 8, 9, 13, 15, 16, 36, 37, 39, 40, 63, 64, 65, 72, 86, 87, 88] [40000, 40001, 40002, 40003, 40004] (ob := (True ∧ True ∧ True)) (st' := (⟨8, [(3, [], .v (.c (.p .bool (!ret6v.1)))), (8, [], .v (.c (.p (.sl (.int .i64)) ((((q0.1.getD (i).toNat ((0 : Int), ((0 : Int), ((0 : Int), ([] : (List (List Int))))))).2.2.2).getD (v29).toNat ([] : (List Int))).drop ((1 : Int)).toNat)))), (9, [], .v (.c (.cl 70 [.pt 40002 0]))), (13, [], .v (.c (.p (.int .i64) v8))), (15, [], .v (.c (.p (.int .i64) (((((q0.1.getD (i).toNat ((0 : Int), ((0 : Int), ((0 : Int), ([] : (List (List Int))))))).2.2.2).getD (v29).toNat ([] : (List Int))).drop ((1 : Int)).toNat).length : Int)))), (16, [], .v (.c (.p (.int .i64) v8))), (36, [], .v (.c (.p (.int .i64) i))), (37, [], .v (.c (.ptr 40000 0))), (39, [], .v (.c (.ptr 40002 0))), (40, [], .v (.c (.ptr 40003 0))), (63, [], .v (.c (.p (.sl (.sl (.int .i64))) ((q0.1.getD (i).toNat ((0 : Int), ((0 : Int), ((0 : Int), ([] : (List (List Int))))))).2.2.2)))), (64, [], .v (.c (.p (.int .i64) (((q0.1.getD (i).toNat ((0 : Int), ((0 : Int), ((0 : Int), ([] : (List (List Int))))))).2.2.2).length : Int)))), (65, [], .v (.c (.p (.int .i64) v29))), (72, [], .v (.c (.p .bool (decide ((0 : Int) < ((((q0.1.getD (i).toNat ((0 : Int), ((0 : Int), ((0 : Int), ([] : (List (List Int))))))).2.2.2).getD (v29).toNat ([] : (List Int))).length : Int)))))), (86, [], .v (.c (.ptr 40000 0))), (87, [], .v (.c (.ptr 40002 0))), (88, [], .v (.c (.ptr 40003 0)))], [(40000, [], .box [.own 40001]), (40001, [], .arr 3 (.int .i64) ret6v.2.1), (40002, [], .box [.cl 69 [.pt 40000 0, .ad ⟨(.pr (.sl (.pr (.int .i64) (.pr (.int .i64) (.pr (.int .i64) (.sl (.sl (.int .i64))))))) (.int .i64)), q0⟩, .pt 40002 0, .pt 40003 0]]), (40003, [], .box [.own 40004]), (40004, [], .arr 3 (.int .i64) ret6v.2.2)]⟩ : St)) (by kernel_rfl) ⟨trivial, trivial, trivial⟩ ?_
                  refine awl_nil ?_
                  refine thenQ_n ?_
                  refine aw_ret ?_
                  refine inlR_r (.v (.c (.p .bool (!ret6v.1)))) (by kernel_rfl) rfl ?_
                  refine awl_conv [.prune [0, 1, 5, 7, 8, 16, 28, 29, 31, 32, 55, 56, 57, 64, 78, 79, 80] [40000, 40001, 40002, 40003, 40004]] (st' := (⟨19, [(0, [], .v (.c (.p (.sl (.int .i64)) ((((q0.1.getD (i).toNat ((0 : Int), ((0 : Int), ((0 : Int), ([] : (List (List Int))))))).2.2.2).getD (v29).toNat ([] : (List Int))).drop ((1 : Int)).toNat)))), (1, [], .v (.c (.cl 70 [.pt 40002 0]))), (5, [], .v (.c (.p (.int .i64) v8))), (7, [], .v (.c (.p (.int .i64) (((((q0.1.getD (i).toNat ((0 : Int), ((0 : Int), ((0 : Int), ([] : (List (List Int))))))).2.2.2).getD (v29).toNat ([] : (List Int))).drop ((1 : Int)).toNat).length : Int)))), (8, [], .v (.c (.p (.int .i64) v8))), (16, [], .v (.c (.p .bool (!ret6v.1)))), (28, [], .v (.c (.p (.int .i64) i))), (29, [], .v (.c (.ptr 40000 0))), (31, [], .v (.c (.ptr 40002 0))), (32, [], .v (.c (.ptr 40003 0))), (55, [], .v (.c (.p (.sl (.sl (.int .i64))) ((q0.1.getD (i).toNat ((0 : Int), ((0 : Int), ((0 : Int), ([] : (List (List Int))))))).2.2.2)))), (56, [], .v (.c (.p (.int .i64) (((q0.1.getD (i).toNat ((0 : Int), ((0 : Int), ((0 : Int), ([] : (List (List Int))))))).2.2.2).length : Int)))), (57, [], .v (.c (.p (.int .i64) v29))), (64, [], .v (.c (.p .bool (decide ((0 : Int) < ((((q0.1.getD (i).toNat ((0 : Int), ((0 : Int), ((0 : Int), ([] : (List (List Int))))))).2.2.2).getD (v29).toNat ([] : (List Int))).length : Int)))))), (78, [], .v (.c (.ptr 40000 0))), (79, [], .v (.c (.ptr 40002 0))), (80, [], .v (.c (.ptr 40003 0)))], [(40000, [], .box [.own 40001]), (40001, [], .arr 3 (.int .i64) ret6v.2.1), (40002, [], .box [.cl 69 [.pt 40000 0, .ad ⟨(.pr (.sl (.pr (.int .i64) (.pr (.int .i64) (.pr (.int .i64) (.sl (.sl (.int .i64))))))) (.int .i64)), q0⟩, .pt 40002 0, .pt 40003 0]]), (40003, [], .box [.own 40004]), (40004, [], .arr 3 (.int .i64) ret6v.2.2)]⟩ : St)) (by kernel_rfl) ?_
                  refine awl_nil ?_
                  refine thenQ_n ?_
                  refine aw_cond (b := (!ret6v.1)) (by kernel_rfl) (fun hb => ?_) (fun hb => ?_)
                  · have h := h.1 hb
                    refine aw_seq ?_
                    refine aw_region ?_
                    refine awl_runp 2 [4, 28, 29, 31, 32, 55, 56, 57, 64, 78, 79, 80] [40000, 40001, 40002, 40003, 40004] (ob := (True ∧ True ∧ True)) (st' := (⟨19, [(4, [], .v (.c (.p (.int .i64) v8))), (28, [], .v (.c (.p (.int .i64) i))), (29, [], .v (.c (.ptr 40000 0))), (31, [], .v (.c (.ptr 40002 0))), (32, [], .v (.c (.ptr 40003 0))), (55, [], .v (.c (.p (.sl (.sl (.int .i64))) ((q0.1.getD (i).toNat ((0 : Int), ((0 : Int), ((0 : Int), ([] : (List (List Int))))))).2.2.2)))), (56, [], .v (.c (.p (.int .i64) (((q0.1.getD (i).toNat ((0 : Int), ((0 : Int), ((0 : Int), ([] : (List (List Int))))))).2.2.2).length : Int)))), (57, [], .v (.c (.p (.int .i64) v29))), (64, [], .v (.c (.p .bool (decide ((0 : Int) < ((((q0.1.getD (i).toNat ((0 : Int), ((0 : Int), ((0 : Int), ([] : (List (List Int))))))).2.2.2).getD (v29).toNat ([] : (List Int))).length : Int)))))), (78, [], .v (.c (.ptr 40000 0))), (79, [], .v (.c (.ptr 40002 0))), (80, [], .v (.c (.ptr 40003 0)))], [(40000, [], .box [.own 40001]), (40001, [], .arr 3 (.int .i64) ret6v.2.1), (40002, [], .box [.cl 69 [.pt 40000 0, .ad ⟨(.pr (.sl (.pr (.int .i64) (.pr (.int .i64) (.pr (.int .i64) (.sl (.sl (.int .i64))))))) (.int .i64)), q0⟩, .pt 40002 0, .pt 40003 0]]), (40003, [], .box [.own 40004]), (40004, [], .arr 3 (.int .i64) ret6v.2.2)]⟩ : St)) (by kernel_rfl) ⟨trivial, trivial, trivial⟩ ?_
                    refine awl_nil ?_
                    refine thenQ_n ?_
                    refine aw_ret ?_
                    refine blockQ_r ?_
                    refine thenQ_r ?_
                    refine thenQ_r ?_
                    refine blockQ_r ?_
                    refine thenQ_r ?_
                    exact rest3 (v8, ret6v.2.1, ret6v.2.2) h
                  · have h := h.2 hb
                    refine aw_skip ?_
                    refine blockQ_n ?_
                    refine thenQ_n ?_
                    refine aw_region ?_
                    obtain ⟨o1, h⟩ := h
                    refine awl_runp 2 [0, 1, 7, 8, 28, 29, 31, 32, 55, 56, 57, 64, 78, 79, 80] [40000, 40001, 40002, 40003, 40004] (ob := (InR (v8 + (1 : Int)) ∧ True ∧ True)) (st' := (⟨19, [(0, [], .v (.c (.p (.sl (.int .i64)) ((((q0.1.getD (i).toNat ((0 : Int), ((0 : Int), ((0 : Int), ([] : (List (List Int))))))).2.2.2).getD (v29).toNat ([] : (List Int))).drop ((1 : Int)).toNat)))), (1, [], .v (.c (.cl 70 [.pt 40002 0]))), (7, [], .v (.c (.p (.int .i64) (((((q0.1.getD (i).toNat ((0 : Int), ((0 : Int), ((0 : Int), ([] : (List (List Int))))))).2.2.2).getD (v29).toNat ([] : (List Int))).drop ((1 : Int)).toNat).length : Int)))), (8, [], .v (.c (.p (.int .i64) (v8 + (1 : Int))))), (28, [], .v (.c (.p (.int .i64) i))), (29, [], .v (.c (.ptr 40000 0))), (31, [], .v (.c (.ptr 40002 0))), (32, [], .v (.c (.ptr 40003 0))), (55, [], .v (.c (.p (.sl (.sl (.int .i64))) ((q0.1.getD (i).toNat ((0 : Int), ((0 : Int), ((0 : Int), ([] : (List (List Int))))))).2.2.2)))), (56, [], .v (.c (.p (.int .i64) (((q0.1.getD (i).toNat ((0 : Int), ((0 : Int), ((0 : Int), ([] : (List (List Int))))))).2.2.2).length : Int)))), (57, [], .v (.c (.p (.int .i64) v29))), (64, [], .v (.c (.p .bool (decide ((0 : Int) < ((((q0.1.getD (i).toNat ((0 : Int), ((0 : Int), ((0 : Int), ([] : (List (List Int))))))).2.2.2).getD (v29).toNat ([] : (List Int))).length : Int)))))), (78, [], .v (.c (.ptr 40000 0))), (79, [], .v (.c (.ptr 40002 0))), (80, [], .v (.c (.ptr 40003 0)))], [(40000, [], .box [.own 40001]), (40001, [], .arr 3 (.int .i64) ret6v.2.1), (40002, [], .box [.cl 69 [.pt 40000 0, .ad ⟨(.pr (.sl (.pr (.int .i64) (.pr (.int .i64) (.pr (.int .i64) (.sl (.sl (.int .i64))))))) (.int .i64)), q0⟩, .pt 40002 0, .pt 40003 0]]), (40003, [], .box [.own 40004]), (40004, [], .arr 3 (.int .i64) ret6v.2.2)]⟩ : St)) (by kernel_rfl) ⟨o1, trivial, trivial⟩ ?_
                    refine awl_nil ?_
                    exact thenQ_n ⟨((v8 + (1 : Int)), ret6v.2.1, ret6v.2.2), rfl, h⟩
                · have h := h.2 hb
                  refine aw_conv [.prune [28, 29, 31, 32, 55, 56, 57, 64, 78, 79, 80] [40000, 40001, 40002, 40003, 40004]] (st' := (⟨19, [(28, [], .v (.c (.p (.int .i64) i))), (29, [], .v (.c (.ptr 40000 0))), (31, [], .v (.c (.ptr 40002 0))), (32, [], .v (.c (.ptr 40003 0))), (55, [], .v (.c (.p (.sl (.sl (.int .i64))) ((q0.1.getD (i).toNat ((0 : Int), ((0 : Int), ((0 : Int), ([] : (List (List Int))))))).2.2.2)))), (56, [], .v (.c (.p (.int .i64) (((q0.1.getD (i).toNat ((0 : Int), ((0 : Int), ((0 : Int), ([] : (List (List Int))))))).2.2.2).length : Int)))), (57, [], .v (.c (.p (.int .i64) v29))), (64, [], .v (.c (.p .bool (decide ((0 : Int) < ((((q0.1.getD (i).toNat ((0 : Int), ((0 : Int), ((0 : Int), ([] : (List (List Int))))))).2.2.2).getD (v29).toNat ([] : (List Int))).length : Int)))))), (78, [], .v (.c (.ptr 40000 0))), (79, [], .v (.c (.ptr 40002 0))), (80, [], .v (.c (.ptr 40003 0)))], [(40000, [], .box [.own 40001]), (40001, [], .arr 3 (.int .i64) l400012), (40002, [], .box [.cl 69 [.pt 40000 0, .ad ⟨(.pr (.sl (.pr (.int .i64) (.pr (.int .i64) (.pr (.int .i64) (.sl (.sl (.int .i64))))))) (.int .i64)), q0⟩, .pt 40002 0, .pt 40003 0]]), (40003, [], .box [.own 40004]), (40004, [], .arr 3 (.int .i64) l400042)]⟩ : St)) (by kernel_rfl) ?_
                  refine aw_exit ?_
                  refine thenQ_x ?_
                  refine thenQ_x ?_
                  refine blockQ_hit ?_
                  exact rest4 (l400012, l400042) h
          · have h := h.2 hb
            refine awl_conv [.prune [0, 1, 3, 4, 27, 28, 29, 36, 40, 50, 51, 52] [40000, 40001, 40002, 40003, 40004]] (st' := (⟨50, [(0, [], .v (.c (.p (.int .i64) i))), (1, [], .v (.c (.ptr 40000 0))), (3, [], .v (.c (.ptr 40002 0))), (4, [], .v (.c (.ptr 40003 0))), (27, [], .v (.c (.p (.sl (.sl (.int .i64))) ((q0.1.getD (i).toNat ((0 : Int), ((0 : Int), ((0 : Int), ([] : (List (List Int))))))).2.2.2)))), (28, [], .v (.c (.p (.int .i64) (((q0.1.getD (i).toNat ((0 : Int), ((0 : Int), ((0 : Int), ([] : (List (List Int))))))).2.2.2).length : Int)))), (29, [], .v (.c (.p (.int .i64) v29))), (36, [], .v (.c (.p .bool (decide ((0 : Int) < ((((q0.1.getD (i).toNat ((0 : Int), ((0 : Int), ((0 : Int), ([] : (List (List Int))))))).2.2.2).getD (v29).toNat ([] : (List Int))).length : Int)))))), (40, [(36, true)], .v (.c (.p .bool false))), (50, [], .v (.c (.ptr 40000 0))), (51, [], .v (.c (.ptr 40002 0))), (52, [], .v (.c (.ptr 40003 0)))], [(40000, [], .box [.own 40001]), (40001, [], .arr 3 (.int .i64) l40001), (40002, [], .box [.cl 69 [.pt 40000 0, .ad ⟨(.pr (.sl (.pr (.int .i64) (.pr (.int .i64) (.pr (.int .i64) (.sl (.sl (.int .i64))))))) (.int .i64)), q0⟩, .pt 40002 0, .pt 40003 0]]), (40003, [], .box [.own 40004]), (40004, [], .arr 3 (.int .i64) l40004)]⟩ : St)) (by kernel_rfl) ?_
            refine awl_runp 1 [0, 1, 3, 4, 27, 28, 29, 41, 50, 51, 52] [40000, 40001, 40002, 40003, 40004] (ob := (True ∧ True)) (st' := (⟨50, [(0, [], .v (.c (.p (.int .i64) i))), (1, [], .v (.c (.ptr 40000 0))), (3, [], .v (.c (.ptr 40002 0))), (4, [], .v (.c (.ptr 40003 0))), (27, [], .v (.c (.p (.sl (.sl (.int .i64))) ((q0.1.getD (i).toNat ((0 : Int), ((0 : Int), ((0 : Int), ([] : (List (List Int))))))).2.2.2)))), (28, [], .v (.c (.p (.int .i64) (((q0.1.getD (i).toNat ((0 : Int), ((0 : Int), ((0 : Int), ([] : (List (List Int))))))).2.2.2).length : Int)))), (29, [], .v (.c (.p (.int .i64) v29))), (41, [], .v (.c (.p .bool ((decide ((0 : Int) < ((((q0.1.getD (i).toNat ((0 : Int), ((0 : Int), ((0 : Int), ([] : (List (List Int))))))).2.2.2).getD (v29).toNat ([] : (List Int))).length : Int))) && false)))), (50, [], .v (.c (.ptr 40000 0))), (51, [], .v (.c (.ptr 40002 0))), (52, [], .v (.c (.ptr 40003 0)))], [(40000, [], .box [.own 40001]), (40001, [], .arr 3 (.int .i64) l40001), (40002, [], .box [.cl 69 [.pt 40000 0, .ad ⟨(.pr (.sl (.pr (.int .i64) (.pr (.int .i64) (.pr (.int .i64) (.sl (.sl (.int .i64))))))) (.int .i64)), q0⟩, .pt 40002 0, .pt 40003 0]]), (40003, [], .box [.own 40004]), (40004, [], .arr 3 (.int .i64) l40004)]⟩ : St)) (by kernel_rfl) ⟨trivial, trivial⟩ ?_
            refine awl_nil ?_
            refine thenQ_n ?_
            refine aw_cond (b := ((decide ((0 : Int) < ((((q0.1.getD (i).toNat ((0 : Int), ((0 : Int), ((0 : Int), ([] : (List (List Int))))))).2.2.2).getD (v29).toNat ([] : (List Int))).length : Int))) && false)) (by kernel_rfl) (fun hb => ?_) (fun hb => ?_)
            · have h := h.1 hb
              refine aw_seq ?_
              refine aw_region ?_
              refine awl_runp 1 [6, 50, 51, 52] [40000, 40001, 40002, 40003, 40004] (ob := (True ∧ True)) (st' := (⟨50, [(6, [], .v (.c (.p .bool false))), (50, [], .v (.c (.ptr 40000 0))), (51, [], .v (.c (.ptr 40002 0))), (52, [], .v (.c (.ptr 40003 0)))], [(40000, [], .box [.own 40001]), (40001, [], .arr 3 (.int .i64) l40001), (40002, [], .box [.cl 69 [.pt 40000 0, .ad ⟨(.pr (.sl (.pr (.int .i64) (.pr (.int .i64) (.pr (.int .i64) (.sl (.sl (.int .i64))))))) (.int .i64)), q0⟩, .pt 40002 0, .pt 40003 0]]), (40003, [], .box [.own 40004]), (40004, [], .arr 3 (.int .i64) l40004)]⟩ : St)) (by kernel_rfl) ⟨trivial, trivial⟩ ?_
              refine awl_nil ?_
              refine thenQ_n ?_
              refine aw_conv [.prune [6, 50, 51, 52] [40000, 40001, 40002, 40003, 40004]] (st' := (⟨50, [(6, [], .v (.c (.p .bool false))), (50, [], .v (.c (.ptr 40000 0))), (51, [], .v (.c (.ptr 40002 0))), (52, [], .v (.c (.ptr 40003 0)))], [(40000, [], .box [.own 40001]), (40001, [], .arr 3 (.int .i64) l40001), (40002, [], .box [.cl 69 [.pt 40000 0, .ad ⟨(.pr (.sl (.pr (.int .i64) (.pr (.int .i64) (.pr (.int .i64) (.sl (.sl (.int .i64))))))) (.int .i64)), q0⟩, .pt 40002 0, .pt 40003 0]]), (40003, [], .box [.own 40004]), (40004, [], .arr 3 (.int .i64) l40004)]⟩ : St)) (by kernel_rfl) ?_
              refine aw_ret ?_
              refine blockQ_r ?_
              refine thenQ_r ?_
              refine thenQ_r ?_
              refine blockQ_r ?_
              refine thenQ_r ?_
              exact lret_r (σ := Bool × (List Int) × (List Int)) (A := fun y => .v (.c (.p .bool y.1))) (H := fun y => [(40000, [], .box [.own 40001]), (40001, [], .arr 3 (.int .i64) y.2.1), (40002, [], .box [.cl 69 [.pt 40000 0, .ad ⟨(.pr (.sl (.pr (.int .i64) (.pr (.int .i64) (.pr (.int .i64) (.sl (.sl (.int .i64))))))) (.int .i64)), q0⟩, .pt 40002 0, .pt 40003 0]]), (40003, [], .box [.own 40004]), (40004, [], .arr 3 (.int .i64) y.2.2)]) (false, l40001, l40004) (by kernel_rfl) rfl (by kernel_rfl) (by kernel_rfl) (by kernel_rfl) h
            · have h := h.2 hb
              refine aw_conv [.prune [0, 1, 3, 4, 27, 28, 29, 50, 51, 52] [40000, 40001, 40002, 40003, 40004]] (st' := (⟨50, [(0, [], .v (.c (.p (.int .i64) i))), (1, [], .v (.c (.ptr 40000 0))), (3, [], .v (.c (.ptr 40002 0))), (4, [], .v (.c (.ptr 40003 0))), (27, [], .v (.c (.p (.sl (.sl (.int .i64))) ((q0.1.getD (i).toNat ((0 : Int), ((0 : Int), ((0 : Int), ([] : (List (List Int))))))).2.2.2)))), (28, [], .v (.c (.p (.int .i64) (((q0.1.getD (i).toNat ((0 : Int), ((0 : Int), ((0 : Int), ([] : (List (List Int))))))).2.2.2).length : Int)))), (29, [], .v (.c (.p (.int .i64) v29))), (50, [], .v (.c (.ptr 40000 0))), (51, [], .v (.c (.ptr 40002 0))), (52, [], .v (.c (.ptr 40003 0)))], [(40000, [], .box [.own 40001]), (40001, [], .arr 3 (.int .i64) l40001), (40002, [], .box [.cl 69 [.pt 40000 0, .ad ⟨(.pr (.sl (.pr (.int .i64) (.pr (.int .i64) (.pr (.int .i64) (.sl (.sl (.int .i64))))))) (.int .i64)), q0⟩, .pt 40002 0, .pt 40003 0]]), (40003, [], .box [.own 40004]), (40004, [], .arr 3 (.int .i64) l40004)]⟩ : St)) (by kernel_rfl) ?_
              refine aw_skip ?_
              refine blockQ_n ?_
              exact rest2 (l40001, l40004) h
      · have h := h.2 hb
        refine aw_conv [.prune [0, 1, 4, 50, 51, 52] [40000, 40001, 40002, 40003, 40004]] (st' := (⟨50, [(0, [], .v (.c (.p (.int .i64) i))), (1, [], .v (.c (.ptr 40000 0))), (4, [], .v (.c (.ptr 40003 0))), (50, [], .v (.c (.ptr 40000 0))), (51, [], .v (.c (.ptr 40002 0))), (52, [], .v (.c (.ptr 40003 0)))], [(40000, [], .box [.own 40001]), (40001, [], .arr 3 (.int .i64) l40001), (40002, [], .box [.cl 69 [.pt 40000 0, .ad ⟨(.pr (.sl (.pr (.int .i64) (.pr (.int .i64) (.pr (.int .i64) (.sl (.sl (.int .i64))))))) (.int .i64)), q0⟩, .pt 40002 0, .pt 40003 0]]), (40003, [], .box [.own 40004]), (40004, [], .arr 3 (.int .i64) l40004)]⟩ : St)) (by kernel_rfl) ?_
        refine aw_exit ?_
        refine thenQ_x ?_
        refine thenQ_x ?_
        refine blockQ_hit ?_
        exact rest1 (l40001, l40004) h

def VCc69_it (q0 : ((List (Int × (Int × (Int × (List (List Int)))))) × Int)) : Nat → Int → (List Int) → (List Int) → (Bool × (List Int) × (List Int) → Prop) → Prop
  | 0 => fun _ _ _ _ => False
  | n + 1 => fun i c0 c1 K => VCc69 q0 (VCc69_it q0 n) i c0 c1 K

def VCcr69 (q0 : ((List (Int × (Int × (Int × (List (List Int)))))) × Int)) (i : Int) (c0 : (List Int)) (c1 : (List Int)) (K : Bool × (List Int) × (List Int) → Prop) : Prop := ∃ n, VCc69_it q0 n i c0 c1 K

theorem linkci69 (q0 : ((List (Int × (Int × (Int × (List (List Int)))))) × Int)) : ∀ (n : Nat) (i : Int) (c0 : (List Int)) (c1 : (List Int)) (K : Bool × (List Int) × (List Int) → Prop), VCc69_it q0 n i c0 c1 K → LCalls Try.prog 69 [40000, 40001, 40002, 40003, 40004] [40000, 40002, 40003] [(40000, [], .box [.own 40001]), (40001, [], .arr 3 (.int .i64) c0), (40002, [], .box [.cl 69 [.pt 40000 0, .ad ⟨(.pr (.sl (.pr (.int .i64) (.pr (.int .i64) (.pr (.int .i64) (.sl (.sl (.int .i64))))))) (.int .i64)), q0⟩, .pt 40002 0, .pt 40003 0]]), (40003, [], .box [.own 40004]), (40004, [], .arr 3 (.int .i64) c1)] [.c (.p (.int .i64) i), .c (.ptr 40000 0), .c (.ad (.pr (.sl (.pr (.int .i64) (.pr (.int .i64) (.pr (.int .i64) (.sl (.sl (.int .i64))))))) (.int .i64)) q0), .c (.ptr 40002 0), .c (.ptr 40003 0)] (fun av hp' => ∃ y : Bool × (List Int) × (List Int), av = .v (.c (.p .bool y.1)) ∧ hp' = [(40000, [], .box [.own 40001]), (40001, [], .arr 3 (.int .i64) y.2.1), (40002, [], .box [.cl 69 [.pt 40000 0, .ad ⟨(.pr (.sl (.pr (.int .i64) (.pr (.int .i64) (.pr (.int .i64) (.sl (.sl (.int .i64))))))) (.int .i64)), q0⟩, .pt 40002 0, .pt 40003 0]]), (40003, [], .box [.own 40004]), (40004, [], .arr 3 (.int .i64) y.2.2)] ∧ K y)
  | 0, _, _, _, _, h => False.elim h
  | n + 1, i, c0, c1, K, h => linkc69 q0 (VCc69_it q0 n) (linkci69 q0 n) i c0 c1 K h

theorem linkcr69 (q0 : ((List (Int × (Int × (Int × (List (List Int)))))) × Int)) (i : Int) (c0 : (List Int)) (c1 : (List Int)) (K : Bool × (List Int) × (List Int) → Prop) (h : VCcr69 q0 i c0 c1 K) : LCalls Try.prog 69 [40000, 40001, 40002, 40003, 40004] [40000, 40002, 40003] [(40000, [], .box [.own 40001]), (40001, [], .arr 3 (.int .i64) c0), (40002, [], .box [.cl 69 [.pt 40000 0, .ad ⟨(.pr (.sl (.pr (.int .i64) (.pr (.int .i64) (.pr (.int .i64) (.sl (.sl (.int .i64))))))) (.int .i64)), q0⟩, .pt 40002 0, .pt 40003 0]]), (40003, [], .box [.own 40004]), (40004, [], .arr 3 (.int .i64) c1)] [.c (.p (.int .i64) i), .c (.ptr 40000 0), .c (.ad (.pr (.sl (.pr (.int .i64) (.pr (.int .i64) (.pr (.int .i64) (.sl (.sl (.int .i64))))))) (.int .i64)) q0), .c (.ptr 40002 0), .c (.ptr 40003 0)] (fun av hp' => ∃ y : Bool × (List Int) × (List Int), av = .v (.c (.p .bool y.1)) ∧ hp' = [(40000, [], .box [.own 40001]), (40001, [], .arr 3 (.int .i64) y.2.1), (40002, [], .box [.cl 69 [.pt 40000 0, .ad ⟨(.pr (.sl (.pr (.int .i64) (.pr (.int .i64) (.pr (.int .i64) (.sl (.sl (.int .i64))))))) (.int .i64)), q0⟩, .pt 40002 0, .pt 40003 0]]), (40003, [], .box [.own 40004]), (40004, [], .arr 3 (.int .i64) y.2.2)] ∧ K y) := by
  obtain ⟨n, h⟩ := h
  exact linkci69 q0 n i c0 c1 K h

-- coppicer/thicket.Sorted
def VC46_k2 (K : (List Int) × Bool → Prop) (l6180 : (List Int)) : Prop :=
  K (l6180, true)

def VC46_l1 (tv : ((List (Int × (Int × (Int × (List (List Int)))))) × Int)) (K : (List Int) × Bool → Prop) (v58 : Int) (l55 : (List Int)) (l6180 : (List Int)) (X1 : Int × (List Int) × (List Int) → Prop) : Prop :=
  (((decide (v58 < (tv.1.length : Int))) = true → VCcr69 tv v58 l55 l6180 (fun (ret63v : Bool × (List Int) × (List Int)) => (((!ret63v.1) = true → K (([] : (List Int)), false)) ∧ ((!ret63v.1) = false → (InR (v58 + (1 : Int)) ∧ X1 ((v58 + (1 : Int)), ret63v.2.1, ret63v.2.2)))))) ∧ ((decide (v58 < (tv.1.length : Int))) = false → VC46_k2 K l6180))

def VC46_k1 (tv : ((List (Int × (Int × (Int × (List (List Int)))))) × Int)) (K : (List Int) × Bool → Prop) : Prop :=
  (room (tv.1.length : Int) ∧ Loop (σ := Int × (List Int) × (List Int)) (fun s X => VC46_l1 tv K s.1 s.2.1 s.2.2 X) ((0 : Int), (List.replicate ((tv.1.length : Int)).toNat (0 : Int)), ([] : List Int)))

def VC46_k3 (v32 : Int) (X2 : Int → Prop) : Prop :=
  (InR (v32 + (1 : Int)) ∧ X2 (v32 + (1 : Int)))

def VC46_l3 (tv : ((List (Int × (Int × (Int × (List (List Int)))))) × Int)) (K : (List Int) × Bool → Prop) (v32 : Int) (X2 : Int → Prop) (v39 : Int) (X3 : Int → Prop) : Prop :=
  (((decide (v39 < (((tv.1.getD (v32).toNat ((0 : Int), ((0 : Int), ((0 : Int), ([] : (List (List Int))))))).2.2.2).length : Int))) = true → (inIdx v39 ((tv.1.getD (v32).toNat ((0 : Int), ((0 : Int), ((0 : Int), ([] : (List (List Int))))))).2.2.2).length ∧ (((decide ((0 : Int) < ((((tv.1.getD (v32).toNat ((0 : Int), ((0 : Int), ((0 : Int), ([] : (List (List Int))))))).2.2.2).getD (v39).toNat ([] : (List Int))).length : Int))) = true → (0 ≤ (1 : Int) ∧ (1 : Int) ≤ ((((tv.1.getD (v32).toNat ((0 : Int), ((0 : Int), ((0 : Int), ([] : (List (List Int))))))).2.2.2).getD (v39).toNat ([] : (List Int))).length : Int))) ∧ gcall (α := Bool) (decide ((0 : Int) < ((((tv.1.getD (v32).toNat ((0 : Int), ((0 : Int), ((0 : Int), ([] : (List (List Int))))))).2.2.2).getD (v39).toNat ([] : (List Int))).length : Int))) (VC48 ((((tv.1.getD (v32).toNat ((0 : Int), ((0 : Int), ((0 : Int), ([] : (List (List Int))))))).2.2.2).getD (v39).toNat ([] : (List Int))).drop ((1 : Int)).toNat) (fun (x : Int) (K : Bool → Prop) => VC68 x (tv.1.length : Int) K)) false (fun (ret50v : Bool) => ((((decide ((0 : Int) < ((((tv.1.getD (v32).toNat ((0 : Int), ((0 : Int), ((0 : Int), ([] : (List (List Int))))))).2.2.2).getD (v39).toNat ([] : (List Int))).length : Int))) && ret50v) = true → K (([] : (List Int)), false)) ∧ (((decide ((0 : Int) < ((((tv.1.getD (v32).toNat ((0 : Int), ((0 : Int), ((0 : Int), ([] : (List (List Int))))))).2.2.2).getD (v39).toNat ([] : (List Int))).length : Int))) && ret50v) = false → (InR (v39 + (1 : Int)) ∧ X3 (v39 + (1 : Int))))))))) ∧ ((decide (v39 < (((tv.1.getD (v32).toNat ((0 : Int), ((0 : Int), ((0 : Int), ([] : (List (List Int))))))).2.2.2).length : Int))) = false → VC46_k3 v32 X2))

def VC46_l2 (tv : ((List (Int × (Int × (Int × (List (List Int)))))) × Int)) (K : (List Int) × Bool → Prop) (v32 : Int) (X2 : Int → Prop) : Prop :=
  (((decide (v32 < (tv.1.length : Int))) = true → (inIdx v32 tv.1.length ∧ Loop (σ := Int) (fun s X => VC46_l3 tv K v32 X2 s X) (0 : Int))) ∧ ((decide (v32 < (tv.1.length : Int))) = false → VC46_k1 tv K))

def VC46 (tv : ((List (Int × (Int × (Int × (List (List Int)))))) × Int)) (K : (List Int) × Bool → Prop) : Prop :=
  (((((decide ((200 : Int) < (tv.1.length : Int))) || (decide (tv.2 < (0 : Int)))) || (decide ((tv.1.length : Int) ≤ tv.2))) = true → K (([] : (List Int)), false)) ∧ ((((decide ((200 : Int) < (tv.1.length : Int))) || (decide (tv.2 < (0 : Int)))) || (decide ((tv.1.length : Int) ≤ tv.2))) = false → Loop (σ := Int) (fun s X => VC46_l2 tv K s X) (0 : Int)))

set_option maxHeartbeats 4000000 in
theorem link46 (tv : ((List (Int × (Int × (Int × (List (List Int)))))) × Int)) (K : (List Int) × Bool → Prop) (h : VC46 tv K) : ACalls Try.prog 46 [toV1 (.pr (.sl (.pr (.int .i64) (.pr (.int .i64) (.pr (.int .i64) (.sl (.sl (.int .i64))))))) (.int .i64)) tv] (fun res => ∃ y, res = (fun y => [toV1 (.sl (.int .i64)) y.1, toV1 .bool y.2]) y ∧ K y) := by
  refine acalls_of_aw [(.sl (.int .i64)), .bool] [.t 2, .t 3] Try.func46 rfl rfl rfl ?_
  unfold VC46 at h
  refine aw_seq ?_
  refine aw_region ?_
  refine awl_runp 3 [1] [1] (ob := (True ∧ True ∧ True ∧ True)) (st' := (⟨67, [(1, [], .v (.c (.ptr 1 0)))], [(1, [], .box [.p (.sl (.pr (.int .i64) (.pr (.int .i64) (.pr (.int .i64) (.sl (.sl (.int .i64))))))) tv.1, .p (.int .i64) tv.2])]⟩ : St)) (by kernel_rfl) ⟨trivial, trivial, trivial, trivial⟩ ?_
  refine awl_nil ?_
  refine thenQ_n ?_
  refine aw_seq ?_
  refine aw_region ?_
  refine awl_runp 5 [1, 4] [1, 4] (ob := (True ∧ True ∧ True ∧ True ∧ True ∧ True)) (st' := (⟨67, [(1, [], .v (.c (.ptr 1 0))), (4, [], .v (.c (.ptr 4 0)))], [(1, [], .box [.p (.sl (.pr (.int .i64) (.pr (.int .i64) (.pr (.int .i64) (.sl (.sl (.int .i64))))))) tv.1, .p (.int .i64) tv.2]), (4, [], .box [.p (.int .i64) (tv.1.length : Int)])]⟩ : St)) (by kernel_rfl) ⟨trivial, trivial, trivial, trivial, trivial, trivial⟩ ?_
  refine awl_nil ?_
  refine thenQ_n ?_
  refine aw_seq ?_
  refine aw_seq ?_
  refine aw_region ?_
  refine awl_runp 13 [1, 4, 28] [1, 4] (ob := (True ∧ True ∧ True ∧ ((decide ((200 : Int) < (tv.1.length : Int))) = false → True) ∧ ((decide ((200 : Int) < (tv.1.length : Int))) = false → True) ∧ ((decide ((200 : Int) < (tv.1.length : Int))) = false → True) ∧ True ∧ True ∧ (((decide ((200 : Int) < (tv.1.length : Int))) || (decide (tv.2 < (0 : Int)))) = false → True) ∧ (((decide ((200 : Int) < (tv.1.length : Int))) || (decide (tv.2 < (0 : Int)))) = false → True) ∧ (((decide ((200 : Int) < (tv.1.length : Int))) || (decide (tv.2 < (0 : Int)))) = false → True) ∧ (((decide ((200 : Int) < (tv.1.length : Int))) || (decide (tv.2 < (0 : Int)))) = false → True) ∧ True ∧ True)) (st' := (⟨67, [(1, [], .v (.c (.ptr 1 0))), (4, [], .v (.c (.ptr 4 0))), (28, [], .v (.c (.p .bool (((decide ((200 : Int) < (tv.1.length : Int))) || (decide (tv.2 < (0 : Int)))) || (decide ((tv.1.length : Int) ≤ tv.2))))))], [(1, [], .box [.p (.sl (.pr (.int .i64) (.pr (.int .i64) (.pr (.int .i64) (.sl (.sl (.int .i64))))))) tv.1, .p (.int .i64) tv.2]), (4, [], .box [.p (.int .i64) (tv.1.length : Int)])]⟩ : St)) (by kernel_rfl) ⟨trivial, trivial, trivial, (fun _ => trivial), (fun _ => trivial), (fun _ => trivial), trivial, trivial, (fun _ => trivial), (fun _ => trivial), (fun _ => trivial), (fun _ => trivial), trivial, trivial⟩ ?_
  refine awl_nil ?_
  refine thenQ_n ?_
  refine aw_cond (b := (((decide ((200 : Int) < (tv.1.length : Int))) || (decide (tv.2 < (0 : Int)))) || (decide ((tv.1.length : Int) ≤ tv.2)))) (by kernel_rfl) (fun hb => ?_) (fun hb => ?_)
  · have h := h.1 hb
    refine aw_seq ?_
    refine aw_region ?_
    refine awl_runp 2 [2, 3] [] (ob := (True ∧ True ∧ True)) (st' := (⟨67, [(2, [], .v (.c (.nils))), (3, [], .v (.c (.p .bool false)))], []⟩ : St)) (by kernel_rfl) ⟨trivial, trivial, trivial⟩ ?_
    refine awl_nil ?_
    refine thenQ_n ?_
    refine aw_ret ?_
    refine thenQ_r ?_
    exact retQ_r (σ := (List Int) × Bool) (R := (fun y => [toV1 (.sl (.int .i64)) y.1, toV1 .bool y.2])) (ob := (True ∧ True ∧ True)) (([] : (List Int)), false) (by kernel_rfl) ⟨trivial, trivial, trivial⟩ h
  · have h := h.2 hb
    refine aw_skip ?_
    refine thenQ_n ?_
    refine aw_seq ?_
    refine aw_seq ?_
    refine aw_region ?_
    refine awl_runp 4 [1, 4, 30, 31, 32] [1, 4] (ob := (True ∧ True ∧ True ∧ True ∧ True)) (st' := (⟨67, [(1, [], .v (.c (.ptr 1 0))), (4, [], .v (.c (.ptr 4 0))), (30, [], .v (.c (.p (.sl (.pr (.int .i64) (.pr (.int .i64) (.pr (.int .i64) (.sl (.sl (.int .i64))))))) tv.1))), (31, [], .v (.c (.p (.int .i64) (tv.1.length : Int)))), (32, [], .v (.c (.p (.int .i64) (0 : Int))))], [(1, [], .box [.p (.sl (.pr (.int .i64) (.pr (.int .i64) (.pr (.int .i64) (.sl (.sl (.int .i64))))))) tv.1, .p (.int .i64) tv.2]), (4, [], .box [.p (.int .i64) (tv.1.length : Int)])]⟩ : St)) (by kernel_rfl) ⟨trivial, trivial, trivial, trivial, trivial⟩ ?_
    refine awl_nil ?_
    refine thenQ_n ?_
    refine withJoin (σ := Unit) (fun s => (⟨67, [(1, [], .v (.c (.ptr 1 0))), (4, [], .v (.c (.ad (.int .i64) (tv.1.length : Int))))], [(1, [], .box [.p (.sl (.pr (.int .i64) (.pr (.int .i64) (.pr (.int .i64) (.sl (.sl (.int .i64))))))) tv.1, .p (.int .i64) tv.2])]⟩ : St)) (fun s => VC46_k1 tv K) (fun s h => ?_) (fun rest2 => ?_)
    · have h : VC46_k1 tv K := h
      unfold VC46_k1 at h
      refine thenQ_n ?_
      refine aw_seq ?_
      refine aw_region ?_
      refine awl_runp 1 [1, 4, 9] [1, 9] (ob := (True ∧ True)) (st' := (⟨67, [(1, [], .v (.c (.ptr 1 0))), (4, [], .v (.c (.ad (.int .i64) (tv.1.length : Int)))), (9, [], .v (.c (.ptr 9 0)))], [(1, [], .box [.p (.sl (.pr (.int .i64) (.pr (.int .i64) (.pr (.int .i64) (.sl (.sl (.int .i64))))))) tv.1, .p (.int .i64) tv.2]), (9, [], .box [.nils])]⟩ : St)) (by kernel_rfl) ⟨trivial, trivial⟩ ?_
      refine awl_nil ?_
      refine thenQ_n ?_
      refine aw_seq ?_
      refine aw_region ?_
      obtain ⟨o1, h⟩ := h
      refine awl_runp 4 [1, 4, 9, 10] [1, 9, 10, 55] (ob := (True ∧ room (tv.1.length : Int) ∧ True ∧ True ∧ True)) (st' := (⟨67, [(1, [], .v (.c (.ptr 1 0))), (4, [], .v (.c (.ad (.int .i64) (tv.1.length : Int)))), (9, [], .v (.c (.ptr 9 0))), (10, [], .v (.c (.ptr 10 0)))], [(1, [], .box [.p (.sl (.pr (.int .i64) (.pr (.int .i64) (.pr (.int .i64) (.sl (.sl (.int .i64))))))) tv.1, .p (.int .i64) tv.2]), (9, [], .box [.nils]), (10, [], .box [.own 55]), (55, [], .arr 3 (.int .i64) (List.replicate ((tv.1.length : Int)).toNat (0 : Int)))]⟩ : St)) (by kernel_rfl) ⟨trivial, o1, trivial, trivial, trivial⟩ ?_
      refine awl_nil ?_
      refine thenQ_n ?_
      refine aw_seq ?_
      refine aw_region ?_
      refine awl_runp 1 [1, 4, 9, 10, 11] [1, 9, 10, 11, 55] (ob := (True ∧ True)) (st' := (⟨67, [(1, [], .v (.c (.ptr 1 0))), (4, [], .v (.c (.ad (.int .i64) (tv.1.length : Int)))), (9, [], .v (.c (.ptr 9 0))), (10, [], .v (.c (.ptr 10 0))), (11, [], .v (.c (.ptr 11 0)))], [(1, [], .box [.p (.sl (.pr (.int .i64) (.pr (.int .i64) (.pr (.int .i64) (.sl (.sl (.int .i64))))))) tv.1, .p (.int .i64) tv.2]), (9, [], .box [.nils]), (10, [], .box [.own 55]), (11, [], .box [.any]), (55, [], .arr 3 (.int .i64) (List.replicate ((tv.1.length : Int)).toNat (0 : Int)))]⟩ : St)) (by kernel_rfl) ⟨trivial, trivial⟩ ?_
      refine awl_nil ?_
      refine thenQ_n ?_
      refine aw_seq ?_
      refine aw_region ?_
      refine awl_conv [.freezeB 1 (.pr (.sl (.pr (.int .i64) (.pr (.int .i64) (.pr (.int .i64) (.sl (.sl (.int .i64))))))) (.int .i64))] (st' := (⟨67, [(1, [], .v (.c (.ad (.pr (.sl (.pr (.int .i64) (.pr (.int .i64) (.pr (.int .i64) (.sl (.sl (.int .i64))))))) (.int .i64)) tv))), (4, [], .v (.c (.ad (.int .i64) (tv.1.length : Int)))), (9, [], .v (.c (.ptr 9 0))), (10, [], .v (.c (.ptr 10 0))), (11, [], .v (.c (.ptr 11 0)))], [(9, [], .box [.nils]), (10, [], .box [.own 55]), (11, [], .box [.any]), (55, [], .arr 3 (.int .i64) (List.replicate ((tv.1.length : Int)).toNat (0 : Int)))]⟩ : St)) (by kernel_rfl) ?_
      refine awl_runp 2 [4, 9, 11] [9, 10, 11, 55] (ob := (True ∧ True ∧ True)) (st' := (⟨67, [(4, [], .v (.c (.ad (.int .i64) (tv.1.length : Int)))), (9, [], .v (.c (.ptr 9 0))), (11, [], .v (.c (.ptr 11 0)))], [(9, [], .box [.nils]), (10, [], .box [.own 55]), (11, [], .box [.cl 69 [.pt 10 0, .ad ⟨(.pr (.sl (.pr (.int .i64) (.pr (.int .i64) (.pr (.int .i64) (.sl (.sl (.int .i64))))))) (.int .i64)), tv⟩, .pt 11 0, .pt 9 0]]), (55, [], .arr 3 (.int .i64) (List.replicate ((tv.1.length : Int)).toNat (0 : Int)))]⟩ : St)) (by kernel_rfl) ⟨trivial, trivial, trivial⟩ ?_
      refine awl_nil ?_
      refine thenQ_n ?_
      refine aw_seq ?_
      refine aw_seq ?_
      refine aw_region ?_
      refine awl_runp 2 [9, 11, 57, 58] [9, 10, 11, 55] (ob := (True ∧ True ∧ True)) (st' := (⟨67, [(9, [], .v (.c (.ptr 9 0))), (11, [], .v (.c (.ptr 11 0))), (57, [], .v (.c (.p (.int .i64) (tv.1.length : Int)))), (58, [], .v (.c (.p (.int .i64) (0 : Int))))], [(9, [], .box [.nils]), (10, [], .box [.own 55]), (11, [], .box [.cl 69 [.pt 10 0, .ad ⟨(.pr (.sl (.pr (.int .i64) (.pr (.int .i64) (.pr (.int .i64) (.sl (.sl (.int .i64))))))) (.int .i64)), tv⟩, .pt 11 0, .pt 9 0]]), (55, [], .arr 3 (.int .i64) (List.replicate ((tv.1.length : Int)).toNat (0 : Int)))]⟩ : St)) (by kernel_rfl) ⟨trivial, trivial, trivial⟩ ?_
      refine awl_nil ?_
      refine thenQ_n ?_
      refine withJoin (σ := (List Int)) (fun s => (⟨67, [(9, [], .v (.c (.ptr 9 0)))], [(9, [], .box [.own 6180]), (6180, [], .arr 3 (.int .i64) s)]⟩ : St)) (fun s => VC46_k2 K s) (fun l6180 h => ?_) (fun rest1 => ?_)
      · have h : VC46_k2 K l6180 := h
        unfold VC46_k2 at h
        refine thenQ_n ?_
        refine aw_seq ?_
        refine aw_region ?_
        refine awl_runp 3 [2, 3] [6180] (ob := (True ∧ True ∧ True ∧ True)) (st' := (⟨67, [(2, [], .v (.c (.own 6180))), (3, [], .v (.c (.p .bool true)))], [(6180, [], .arr 3 (.int .i64) l6180)]⟩ : St)) (by kernel_rfl) ⟨trivial, trivial, trivial, trivial⟩ ?_
        refine awl_nil ?_
        refine thenQ_n ?_
        refine aw_conv [.freeze 6180] (st' := (⟨67, [(2, [], .v (.c (.p (.sl (.int .i64)) l6180))), (3, [], .v (.c (.p .bool true)))], []⟩ : St)) (by kernel_rfl) ?_
        refine aw_ret ?_
        exact retQ_r (σ := (List Int) × Bool) (R := (fun y => [toV1 (.sl (.int .i64)) y.1, toV1 .bool y.2])) (ob := (True ∧ True ∧ True)) (l6180, true) (by kernel_rfl) ⟨trivial, trivial, trivial⟩ h
      · refine aw_block ?_
        refine aw_conv [.nilOwnB 9 0 6180 3 (.int .i64), .prune [9, 11, 57, 58] [9, 10, 11, 55, 6180]] (st' := (⟨67, [(9, [], .v (.c (.ptr 9 0))), (11, [], .v (.c (.ptr 11 0))), (57, [], .v (.c (.p (.int .i64) (tv.1.length : Int)))), (58, [], .v (.c (.p (.int .i64) (0 : Int))))], [(9, [], .box [.own 6180]), (10, [], .box [.own 55]), (11, [], .box [.cl 69 [.pt 10 0, .ad ⟨(.pr (.sl (.pr (.int .i64) (.pr (.int .i64) (.pr (.int .i64) (.sl (.sl (.int .i64))))))) (.int .i64)), tv⟩, .pt 11 0, .pt 9 0]]), (55, [], .arr 3 (.int .i64) (List.replicate ((tv.1.length : Int)).toNat (0 : Int))), (6180, [], .arr 3 (.int .i64) ([] : List Int))]⟩ : St)) (by kernel_rfl) ?_
        refine aw_loop (σ := Int × (List Int) × (List Int)) (fun s => (⟨67, [(9, [], .v (.c (.ptr 9 0))), (11, [], .v (.c (.ptr 11 0))), (57, [], .v (.c (.p (.int .i64) (tv.1.length : Int)))), (58, [], .v (.c (.p (.int .i64) s.1)))], [(9, [], .box [.own 6180]), (10, [], .box [.own 55]), (11, [], .box [.cl 69 [.pt 10 0, .ad ⟨(.pr (.sl (.pr (.int .i64) (.pr (.int .i64) (.pr (.int .i64) (.sl (.sl (.int .i64))))))) (.int .i64)), tv⟩, .pt 11 0, .pt 9 0]]), (55, [], .arr 3 (.int .i64) s.2.1), (6180, [], .arr 3 (.int .i64) s.2.2)]⟩ : St)) (fun s X => VC46_l1 tv K s.1 s.2.1 s.2.2 X) (s0 := ((0 : Int), (List.replicate ((tv.1.length : Int)).toNat (0 : Int)), ([] : List Int))) (fun s X1 h => ?_) h
        obtain ⟨v58, l55, l6180⟩ := s
        have h : VC46_l1 tv K v58 l55 l6180 X1 := h
        unfold VC46_l1 at h
        refine aw_seq ?_
        refine aw_region ?_
        refine awl_runp 1 [9, 11, 57, 58, 59] [9, 10, 11, 55, 6180] (ob := (True ∧ True)) (st' := (⟨67, [(9, [], .v (.c (.ptr 9 0))), (11, [], .v (.c (.ptr 11 0))), (57, [], .v (.c (.p (.int .i64) (tv.1.length : Int)))), (58, [], .v (.c (.p (.int .i64) v58))), (59, [], .v (.c (.p .bool (decide (v58 < (tv.1.length : Int))))))], [(9, [], .box [.own 6180]), (10, [], .box [.own 55]), (11, [], .box [.cl 69 [.pt 10 0, .ad ⟨(.pr (.sl (.pr (.int .i64) (.pr (.int .i64) (.pr (.int .i64) (.sl (.sl (.int .i64))))))) (.int .i64)), tv⟩, .pt 11 0, .pt 9 0]]), (55, [], .arr 3 (.int .i64) l55), (6180, [], .arr 3 (.int .i64) l6180)]⟩ : St)) (by kernel_rfl) ⟨trivial, trivial⟩ ?_
        refine awl_nil ?_
        refine thenQ_n ?_
        refine aw_seq ?_
        refine aw_cond (b := (decide (v58 < (tv.1.length : Int)))) (by kernel_rfl) (fun hb => ?_) (fun hb => ?_)
        · have h := h.1 hb
          refine aw_skip ?_
          refine thenQ_n ?_
          refine aw_seq ?_
          refine aw_block ?_
          refine aw_seq ?_
          refine aw_region ?_
          refine awl_runp 2 [9, 11, 12, 57, 58] [9, 10, 11, 55, 6180] (ob := (True ∧ True ∧ True)) (st' := (⟨67, [(9, [], .v (.c (.ptr 9 0))), (11, [], .v (.c (.ptr 11 0))), (12, [], .v (.c (.p (.int .i64) v58))), (57, [], .v (.c (.p (.int .i64) (tv.1.length : Int)))), (58, [], .v (.c (.p (.int .i64) v58)))], [(9, [], .box [.own 6180]), (10, [], .box [.own 55]), (11, [], .box [.cl 69 [.pt 10 0, .ad ⟨(.pr (.sl (.pr (.int .i64) (.pr (.int .i64) (.pr (.int .i64) (.sl (.sl (.int .i64))))))) (.int .i64)), tv⟩, .pt 11 0, .pt 9 0]]), (55, [], .arr 3 (.int .i64) l55), (6180, [], .arr 3 (.int .i64) l6180)]⟩ : St)) (by kernel_rfl) ⟨trivial, trivial, trivial⟩ ?_
          refine awl_nil ?_
          refine thenQ_n ?_
          refine aw_seq ?_
          refine aw_region ?_
          refine awl_runp 2 [9, 11, 57, 58, 61, 62] [9, 10, 11, 55, 6180] (ob := (True ∧ True ∧ True)) (st' := (⟨67, [(9, [], .v (.c (.ptr 9 0))), (11, [], .v (.c (.ptr 11 0))), (57, [], .v (.c (.p (.int .i64) (tv.1.length : Int)))), (58, [], .v (.c (.p (.int .i64) v58))), (61, [], .v (.c (.cl 69 [.pt 10 0, .ad ⟨(.pr (.sl (.pr (.int .i64) (.pr (.int .i64) (.pr (.int .i64) (.sl (.sl (.int .i64))))))) (.int .i64)), tv⟩, .pt 11 0, .pt 9 0]))), (62, [], .v (.c (.p (.int .i64) v58)))], [(9, [], .box [.own 6180]), (10, [], .box [.own 55]), (11, [], .box [.cl 69 [.pt 10 0, .ad ⟨(.pr (.sl (.pr (.int .i64) (.pr (.int .i64) (.pr (.int .i64) (.sl (.sl (.int .i64))))))) (.int .i64)), tv⟩, .pt 11 0, .pt 9 0]]), (55, [], .arr 3 (.int .i64) l55), (6180, [], .arr 3 (.int .i64) l6180)]⟩ : St)) (by kernel_rfl) ⟨trivial, trivial, trivial⟩ ?_
          refine awl_conv [.ren 10 40000, .ren 55 40001, .ren 11 40002, .ren 9 40003, .ren 6180 40004] (st' := (⟨67, [(9, [], .v (.c (.ptr 40003 0))), (11, [], .v (.c (.ptr 40002 0))), (57, [], .v (.c (.p (.int .i64) (tv.1.length : Int)))), (58, [], .v (.c (.p (.int .i64) v58))), (61, [], .v (.c (.cl 69 [.pt 40000 0, .ad ⟨(.pr (.sl (.pr (.int .i64) (.pr (.int .i64) (.pr (.int .i64) (.sl (.sl (.int .i64))))))) (.int .i64)), tv⟩, .pt 40002 0, .pt 40003 0]))), (62, [], .v (.c (.p (.int .i64) v58)))], [(40003, [], .box [.own 40004]), (40000, [], .box [.own 40001]), (40002, [], .box [.cl 69 [.pt 40000 0, .ad ⟨(.pr (.sl (.pr (.int .i64) (.pr (.int .i64) (.pr (.int .i64) (.sl (.sl (.int .i64))))))) (.int .i64)), tv⟩, .pt 40002 0, .pt 40003 0]]), (40001, [], .arr 3 (.int .i64) l55), (40004, [], .arr 3 (.int .i64) l6180)]⟩ : St)) (by kernel_rfl) ?_
          refine awl_lcall (σ := Bool × (List Int) × (List Int)) [40000, 40001, 40002, 40003, 40004] [40000, 40002, 40003] [.c (.p (.int .i64) v58)] [.c (.ptr 40000 0), .c (.ad (.pr (.sl (.pr (.int .i64) (.pr (.int .i64) (.pr (.int .i64) (.sl (.sl (.int .i64))))))) (.int .i64)) tv), .c (.ptr 40002 0), .c (.ptr 40003 0)] (fun ret63v => .v (.c (.p .bool ret63v.1))) (fun ret63v => [(40000, [], .box [.own 40001]), (40001, [], .arr 3 (.int .i64) ret63v.2.1), (40002, [], .box [.cl 69 [.pt 40000 0, .ad ⟨(.pr (.sl (.pr (.int .i64) (.pr (.int .i64) (.pr (.int .i64) (.sl (.sl (.int .i64))))))) (.int .i64)), tv⟩, .pt 40002 0, .pt 40003 0]]), (40003, [], .box [.own 40004]), (40004, [], .arr 3 (.int .i64) ret63v.2.2)]) (fun (ret63v : Bool × (List Int) × (List Int)) => (((!ret63v.1) = true → K (([] : (List Int)), false)) ∧ ((!ret63v.1) = false → (InR (v58 + (1 : Int)) ∧ X1 ((v58 + (1 : Int)), ret63v.2.1, ret63v.2.2))))) [(40000, [], .box [.own 40001]), (40001, [], .arr 3 (.int .i64) l55), (40002, [], .box [.cl 69 [.pt 40000 0, .ad ⟨(.pr (.sl (.pr (.int .i64) (.pr (.int .i64) (.pr (.int .i64) (.sl (.sl (.int .i64))))))) (.int .i64)), tv⟩, .pt 40002 0, .pt 40003 0]]), (40003, [], .box [.own 40004]), (40004, [], .arr 3 (.int .i64) l6180)] (fun ret63v => (⟨67, [(63, [], .v (.c (.p .bool ret63v.1))), (9, [], .v (.c (.ptr 40003 0))), (11, [], .v (.c (.ptr 40002 0))), (57, [], .v (.c (.p (.int .i64) (tv.1.length : Int)))), (58, [], .v (.c (.p (.int .i64) v58))), (61, [], .v (.c (.cl 69 [.pt 40000 0, .ad ⟨(.pr (.sl (.pr (.int .i64) (.pr (.int .i64) (.pr (.int .i64) (.sl (.sl (.int .i64))))))) (.int .i64)), tv⟩, .pt 40002 0, .pt 40003 0]))), (62, [], .v (.c (.p (.int .i64) v58)))], [(40000, [], .box [.own 40001]), (40001, [], .arr 3 (.int .i64) ret63v.2.1), (40002, [], .box [.cl 69 [.pt 40000 0, .ad ⟨(.pr (.sl (.pr (.int .i64) (.pr (.int .i64) (.pr (.int .i64) (.sl (.sl (.int .i64))))))) (.int .i64)), tv⟩, .pt 40002 0, .pt 40003 0]]), (40003, [], .box [.own 40004]), (40004, [], .arr 3 (.int .i64) ret63v.2.2)]⟩ : St)) rfl rfl (by kernel_rfl) rfl (by kernel_rfl) Try.call69 (by kernel_rfl) (by kernel_rfl) (by kernel_rfl) (fun _ _ => rfl) (fun _ => by kernel_rfl) (linkcr69 tv v58 l55 l6180 _ h) (fun ret63v h => ?_)
          have h : (((!ret63v.1) = true → K (([] : (List Int)), false)) ∧ ((!ret63v.1) = false → (InR (v58 + (1 : Int)) ∧ X1 ((v58 + (1 : Int)), ret63v.2.1, ret63v.2.2)))) := h
          refine awl_conv [.prune [9, 11, 57, 58, 63] [40000, 40001, 40002, 40003, 40004]] (st' := (⟨67, [(9, [], .v (.c (.ptr 40003 0))), (11, [], .v (.c (.ptr 40002 0))), (57, [], .v (.c (.p (.int .i64) (tv.1.length : Int)))), (58, [], .v (.c (.p (.int .i64) v58))), (63, [], .v (.c (.p .bool ret63v.1)))], [(40000, [], .box [.own 40001]), (40001, [], .arr 3 (.int .i64) ret63v.2.1), (40002, [], .box [.cl 69 [.pt 40000 0, .ad ⟨(.pr (.sl (.pr (.int .i64) (.pr (.int .i64) (.pr (.int .i64) (.sl (.sl (.int .i64))))))) (.int .i64)), tv⟩, .pt 40002 0, .pt 40003 0]]), (40003, [], .box [.own 40004]), (40004, [], .arr 3 (.int .i64) ret63v.2.2)]⟩ : St)) (by kernel_rfl) ?_
          refine awl_runp 1 [9, 11, 57, 58, 64] [40000, 40001, 40002, 40003, 40004] (ob := (True ∧ True)) (st' := (⟨67, [(9, [], .v (.c (.ptr 40003 0))), (11, [], .v (.c (.ptr 40002 0))), (57, [], .v (.c (.p (.int .i64) (tv.1.length : Int)))), (58, [], .v (.c (.p (.int .i64) v58))), (64, [], .v (.c (.p .bool (!ret63v.1))))], [(40000, [], .box [.own 40001]), (40001, [], .arr 3 (.int .i64) ret63v.2.1), (40002, [], .box [.cl 69 [.pt 40000 0, .ad ⟨(.pr (.sl (.pr (.int .i64) (.pr (.int .i64) (.pr (.int .i64) (.sl (.sl (.int .i64))))))) (.int .i64)), tv⟩, .pt 40002 0, .pt 40003 0]]), (40003, [], .box [.own 40004]), (40004, [], .arr 3 (.int .i64) ret63v.2.2)]⟩ : St)) (by kernel_rfl) ⟨trivial, trivial⟩ ?_
          refine awl_nil ?_
          refine thenQ_n ?_
          refine aw_cond (b := (!ret63v.1)) (by kernel_rfl) (fun hb => ?_) (fun hb => ?_)
          · have h := h.1 hb
            refine aw_seq ?_
            refine aw_region ?_
            refine awl_runp 2 [2, 3] [] (ob := (True ∧ True ∧ True)) (st' := (⟨67, [(2, [], .v (.c (.nils))), (3, [], .v (.c (.p .bool false)))], []⟩ : St)) (by kernel_rfl) ⟨trivial, trivial, trivial⟩ ?_
            refine awl_nil ?_
            refine thenQ_n ?_
            refine aw_ret ?_
            refine blockQ_r ?_
            refine thenQ_r ?_
            refine thenQ_r ?_
            refine blockQ_r ?_
            refine thenQ_r ?_
            exact retQ_r (σ := (List Int) × Bool) (R := (fun y => [toV1 (.sl (.int .i64)) y.1, toV1 .bool y.2])) (ob := (True ∧ True ∧ True)) (([] : (List Int)), false) (by kernel_rfl) ⟨trivial, trivial, trivial⟩ h
          · have h := h.2 hb
            refine aw_skip ?_
            refine blockQ_n ?_
            refine thenQ_n ?_
            refine aw_region ?_
            obtain ⟨o1, h⟩ := h
            refine awl_runp 2 [9, 11, 57, 58] [40000, 40001, 40002, 40003, 40004] (ob := (InR (v58 + (1 : Int)) ∧ True ∧ True)) (st' := (⟨67, [(9, [], .v (.c (.ptr 40003 0))), (11, [], .v (.c (.ptr 40002 0))), (57, [], .v (.c (.p (.int .i64) (tv.1.length : Int)))), (58, [], .v (.c (.p (.int .i64) (v58 + (1 : Int)))))], [(40000, [], .box [.own 40001]), (40001, [], .arr 3 (.int .i64) ret63v.2.1), (40002, [], .box [.cl 69 [.pt 40000 0, .ad ⟨(.pr (.sl (.pr (.int .i64) (.pr (.int .i64) (.pr (.int .i64) (.sl (.sl (.int .i64))))))) (.int .i64)), tv⟩, .pt 40002 0, .pt 40003 0]]), (40003, [], .box [.own 40004]), (40004, [], .arr 3 (.int .i64) ret63v.2.2)]⟩ : St)) (by kernel_rfl) ⟨o1, trivial, trivial⟩ ?_
            refine awl_conv [.ren 40003 60003, .ren 40004 60004, .ren 40002 60002, .ren 40000 60000, .ren 40001 60001, .ren 60003 9, .ren 60004 6180, .ren 60002 11, .ren 60000 10, .ren 60001 55, .prune [9, 11, 57, 58] [9, 10, 11, 55, 6180]] (st' := (⟨67, [(9, [], .v (.c (.ptr 9 0))), (11, [], .v (.c (.ptr 11 0))), (57, [], .v (.c (.p (.int .i64) (tv.1.length : Int)))), (58, [], .v (.c (.p (.int .i64) (v58 + (1 : Int)))))], [(9, [], .box [.own 6180]), (10, [], .box [.own 55]), (11, [], .box [.cl 69 [.pt 10 0, .ad ⟨(.pr (.sl (.pr (.int .i64) (.pr (.int .i64) (.pr (.int .i64) (.sl (.sl (.int .i64))))))) (.int .i64)), tv⟩, .pt 11 0, .pt 9 0]]), (55, [], .arr 3 (.int .i64) ret63v.2.1), (6180, [], .arr 3 (.int .i64) ret63v.2.2)]⟩ : St)) (by kernel_rfl) ?_
            refine awl_nil ?_
            exact thenQ_n ⟨((v58 + (1 : Int)), ret63v.2.1, ret63v.2.2), rfl, h⟩
        · have h := h.2 hb
          refine aw_conv [.prune [9] [9, 6180]] (st' := (⟨67, [(9, [], .v (.c (.ptr 9 0)))], [(9, [], .box [.own 6180]), (6180, [], .arr 3 (.int .i64) l6180)]⟩ : St)) (by kernel_rfl) ?_
          refine aw_exit ?_
          refine thenQ_x ?_
          refine thenQ_x ?_
          refine blockQ_hit ?_
          exact rest1 l6180 h
    · refine aw_block ?_
      refine aw_conv [.freezeB 4 (.int .i64)] (st' := (⟨67, [(1, [], .v (.c (.ptr 1 0))), (4, [], .v (.c (.ad (.int .i64) (tv.1.length : Int)))), (30, [], .v (.c (.p (.sl (.pr (.int .i64) (.pr (.int .i64) (.pr (.int .i64) (.sl (.sl (.int .i64))))))) tv.1))), (31, [], .v (.c (.p (.int .i64) (tv.1.length : Int)))), (32, [], .v (.c (.p (.int .i64) (0 : Int))))], [(1, [], .box [.p (.sl (.pr (.int .i64) (.pr (.int .i64) (.pr (.int .i64) (.sl (.sl (.int .i64))))))) tv.1, .p (.int .i64) tv.2])]⟩ : St)) (by kernel_rfl) ?_
      refine aw_loop (σ := Int) (fun s => (⟨67, [(1, [], .v (.c (.ptr 1 0))), (4, [], .v (.c (.ad (.int .i64) (tv.1.length : Int)))), (30, [], .v (.c (.p (.sl (.pr (.int .i64) (.pr (.int .i64) (.pr (.int .i64) (.sl (.sl (.int .i64))))))) tv.1))), (31, [], .v (.c (.p (.int .i64) (tv.1.length : Int)))), (32, [], .v (.c (.p (.int .i64) s)))], [(1, [], .box [.p (.sl (.pr (.int .i64) (.pr (.int .i64) (.pr (.int .i64) (.sl (.sl (.int .i64))))))) tv.1, .p (.int .i64) tv.2])]⟩ : St)) (fun s X => VC46_l2 tv K s X) (s0 := (0 : Int)) (fun v32 X2 h => ?_) h
      have h : VC46_l2 tv K v32 X2 := h
      unfold VC46_l2 at h
      refine aw_seq ?_
      refine aw_region ?_
      refine awl_runp 1 [1, 4, 30, 31, 32, 33] [1] (ob := (True ∧ True)) (st' := (⟨67, [(1, [], .v (.c (.ptr 1 0))), (4, [], .v (.c (.ad (.int .i64) (tv.1.length : Int)))), (30, [], .v (.c (.p (.sl (.pr (.int .i64) (.pr (.int .i64) (.pr (.int .i64) (.sl (.sl (.int .i64))))))) tv.1))), (31, [], .v (.c (.p (.int .i64) (tv.1.length : Int)))), (32, [], .v (.c (.p (.int .i64) v32))), (33, [], .v (.c (.p .bool (decide (v32 < (tv.1.length : Int))))))], [(1, [], .box [.p (.sl (.pr (.int .i64) (.pr (.int .i64) (.pr (.int .i64) (.sl (.sl (.int .i64))))))) tv.1, .p (.int .i64) tv.2])]⟩ : St)) (by kernel_rfl) ⟨trivial, trivial⟩ ?_
      refine awl_nil ?_
      refine thenQ_n ?_
      refine aw_seq ?_
      refine aw_cond (b := (decide (v32 < (tv.1.length : Int)))) (by kernel_rfl) (fun hb => ?_) (fun hb => ?_)
      · have h := h.1 hb
        refine aw_skip ?_
        refine thenQ_n ?_
        refine aw_seq ?_
        refine aw_block ?_
        refine aw_seq ?_
        refine aw_region ?_
        obtain ⟨o1, h⟩ := h
        refine awl_runp 4 [1, 4, 6, 30, 31, 32] [1, 6] (ob := (inIdx v32 tv.1.length ∧ True ∧ True ∧ True ∧ True)) (st' := (⟨67, [(1, [], .v (.c (.ptr 1 0))), (4, [], .v (.c (.ad (.int .i64) (tv.1.length : Int)))), (6, [], .v (.c (.ptr 6 0))), (30, [], .v (.c (.p (.sl (.pr (.int .i64) (.pr (.int .i64) (.pr (.int .i64) (.sl (.sl (.int .i64))))))) tv.1))), (31, [], .v (.c (.p (.int .i64) (tv.1.length : Int)))), (32, [], .v (.c (.p (.int .i64) v32)))], [(1, [], .box [.p (.sl (.pr (.int .i64) (.pr (.int .i64) (.pr (.int .i64) (.sl (.sl (.int .i64))))))) tv.1, .p (.int .i64) tv.2]), (6, [], .box [.p (.int .i64) ((tv.1.getD (v32).toNat ((0 : Int), ((0 : Int), ((0 : Int), ([] : (List (List Int))))))).1), .p (.int .i64) ((tv.1.getD (v32).toNat ((0 : Int), ((0 : Int), ((0 : Int), ([] : (List (List Int))))))).2.1), .p (.int .i64) ((tv.1.getD (v32).toNat ((0 : Int), ((0 : Int), ((0 : Int), ([] : (List (List Int))))))).2.2.1), .p (.sl (.sl (.int .i64))) ((tv.1.getD (v32).toNat ((0 : Int), ((0 : Int), ((0 : Int), ([] : (List (List Int))))))).2.2.2)])]⟩ : St)) (by kernel_rfl) ⟨o1, trivial, trivial, trivial, trivial⟩ ?_
        refine awl_nil ?_
        refine thenQ_n ?_
        refine aw_seq ?_
        refine aw_region ?_
        refine awl_runp 4 [1, 4, 30, 31, 32, 37, 38, 39] [1] (ob := (True ∧ True ∧ True ∧ True ∧ True)) (st' := (⟨67, [(1, [], .v (.c (.ptr 1 0))), (4, [], .v (.c (.ad (.int .i64) (tv.1.length : Int)))), (30, [], .v (.c (.p (.sl (.pr (.int .i64) (.pr (.int .i64) (.pr (.int .i64) (.sl (.sl (.int .i64))))))) tv.1))), (31, [], .v (.c (.p (.int .i64) (tv.1.length : Int)))), (32, [], .v (.c (.p (.int .i64) v32))), (37, [], .v (.c (.p (.sl (.sl (.int .i64))) ((tv.1.getD (v32).toNat ((0 : Int), ((0 : Int), ((0 : Int), ([] : (List (List Int))))))).2.2.2)))), (38, [], .v (.c (.p (.int .i64) (((tv.1.getD (v32).toNat ((0 : Int), ((0 : Int), ((0 : Int), ([] : (List (List Int))))))).2.2.2).length : Int)))), (39, [], .v (.c (.p (.int .i64) (0 : Int))))], [(1, [], .box [.p (.sl (.pr (.int .i64) (.pr (.int .i64) (.pr (.int .i64) (.sl (.sl (.int .i64))))))) tv.1, .p (.int .i64) tv.2])]⟩ : St)) (by kernel_rfl) ⟨trivial, trivial, trivial, trivial, trivial⟩ ?_
        refine awl_nil ?_
        refine thenQ_n ?_
        refine withJoin (σ := Unit) (fun s => (⟨67, [(1, [], .v (.c (.ptr 1 0))), (4, [], .v (.c (.ad (.int .i64) (tv.1.length : Int)))), (30, [], .v (.c (.p (.sl (.pr (.int .i64) (.pr (.int .i64) (.pr (.int .i64) (.sl (.sl (.int .i64))))))) tv.1))), (31, [], .v (.c (.p (.int .i64) (tv.1.length : Int)))), (32, [], .v (.c (.p (.int .i64) v32)))], [(1, [], .box [.p (.sl (.pr (.int .i64) (.pr (.int .i64) (.pr (.int .i64) (.sl (.sl (.int .i64))))))) tv.1, .p (.int .i64) tv.2])]⟩ : St)) (fun s => VC46_k3 v32 X2) (fun s h => ?_) (fun rest3 => ?_)
        · have h : VC46_k3 v32 X2 := h
          unfold VC46_k3 at h
          refine blockQ_n ?_
          refine thenQ_n ?_
          refine aw_region ?_
          obtain ⟨o1, h⟩ := h
          refine awl_runp 2 [1, 4, 30, 31, 32] [1] (ob := (InR (v32 + (1 : Int)) ∧ True ∧ True)) (st' := (⟨67, [(1, [], .v (.c (.ptr 1 0))), (4, [], .v (.c (.ad (.int .i64) (tv.1.length : Int)))), (30, [], .v (.c (.p (.sl (.pr (.int .i64) (.pr (.int .i64) (.pr (.int .i64) (.sl (.sl (.int .i64))))))) tv.1))), (31, [], .v (.c (.p (.int .i64) (tv.1.length : Int)))), (32, [], .v (.c (.p (.int .i64) (v32 + (1 : Int)))))], [(1, [], .box [.p (.sl (.pr (.int .i64) (.pr (.int .i64) (.pr (.int .i64) (.sl (.sl (.int .i64))))))) tv.1, .p (.int .i64) tv.2])]⟩ : St)) (by kernel_rfl) ⟨o1, trivial, trivial⟩ ?_
          refine awl_nil ?_
          exact thenQ_n ⟨(v32 + (1 : Int)), rfl, h⟩
        · refine aw_block ?_
          refine aw_loop (σ := Int) (fun s => (⟨67, [(1, [], .v (.c (.ptr 1 0))), (4, [], .v (.c (.ad (.int .i64) (tv.1.length : Int)))), (30, [], .v (.c (.p (.sl (.pr (.int .i64) (.pr (.int .i64) (.pr (.int .i64) (.sl (.sl (.int .i64))))))) tv.1))), (31, [], .v (.c (.p (.int .i64) (tv.1.length : Int)))), (32, [], .v (.c (.p (.int .i64) v32))), (37, [], .v (.c (.p (.sl (.sl (.int .i64))) ((tv.1.getD (v32).toNat ((0 : Int), ((0 : Int), ((0 : Int), ([] : (List (List Int))))))).2.2.2)))), (38, [], .v (.c (.p (.int .i64) (((tv.1.getD (v32).toNat ((0 : Int), ((0 : Int), ((0 : Int), ([] : (List (List Int))))))).2.2.2).length : Int)))), (39, [], .v (.c (.p (.int .i64) s)))], [(1, [], .box [.p (.sl (.pr (.int .i64) (.pr (.int .i64) (.pr (.int .i64) (.sl (.sl (.int .i64))))))) tv.1, .p (.int .i64) tv.2])]⟩ : St)) (fun s X => VC46_l3 tv K v32 X2 s X) (s0 := (0 : Int)) (fun v39 X3 h => ?_) h
          have h : VC46_l3 tv K v32 X2 v39 X3 := h
          unfold VC46_l3 at h
          refine aw_seq ?_
          refine aw_region ?_
          refine awl_runp 1 [1, 4, 30, 31, 32, 37, 38, 39, 40] [1] (ob := (True ∧ True)) (st' := (⟨67, [(1, [], .v (.c (.ptr 1 0))), (4, [], .v (.c (.ad (.int .i64) (tv.1.length : Int)))), (30, [], .v (.c (.p (.sl (.pr (.int .i64) (.pr (.int .i64) (.pr (.int .i64) (.sl (.sl (.int .i64))))))) tv.1))), (31, [], .v (.c (.p (.int .i64) (tv.1.length : Int)))), (32, [], .v (.c (.p (.int .i64) v32))), (37, [], .v (.c (.p (.sl (.sl (.int .i64))) ((tv.1.getD (v32).toNat ((0 : Int), ((0 : Int), ((0 : Int), ([] : (List (List Int))))))).2.2.2)))), (38, [], .v (.c (.p (.int .i64) (((tv.1.getD (v32).toNat ((0 : Int), ((0 : Int), ((0 : Int), ([] : (List (List Int))))))).2.2.2).length : Int)))), (39, [], .v (.c (.p (.int .i64) v39))), (40, [], .v (.c (.p .bool (decide (v39 < (((tv.1.getD (v32).toNat ((0 : Int), ((0 : Int), ((0 : Int), ([] : (List (List Int))))))).2.2.2).length : Int))))))], [(1, [], .box [.p (.sl (.pr (.int .i64) (.pr (.int .i64) (.pr (.int .i64) (.sl (.sl (.int .i64))))))) tv.1, .p (.int .i64) tv.2])]⟩ : St)) (by kernel_rfl) ⟨trivial, trivial⟩ ?_
          refine awl_nil ?_
          refine thenQ_n ?_
          refine aw_seq ?_
          refine aw_cond (b := (decide (v39 < (((tv.1.getD (v32).toNat ((0 : Int), ((0 : Int), ((0 : Int), ([] : (List (List Int))))))).2.2.2).length : Int)))) (by kernel_rfl) (fun hb => ?_) (fun hb => ?_)
          · have h := h.1 hb
            refine aw_skip ?_
            refine thenQ_n ?_
            refine aw_seq ?_
            refine aw_block ?_
            refine aw_seq ?_
            refine aw_region ?_
            obtain ⟨o1, h⟩ := h
            refine awl_runp 3 [1, 4, 8, 30, 31, 32, 37, 38, 39] [1] (ob := (inIdx v39 ((tv.1.getD (v32).toNat ((0 : Int), ((0 : Int), ((0 : Int), ([] : (List (List Int))))))).2.2.2).length ∧ True ∧ True ∧ True)) (st' := (⟨67, [(1, [], .v (.c (.ptr 1 0))), (4, [], .v (.c (.ad (.int .i64) (tv.1.length : Int)))), (8, [], .v (.c (.p (.sl (.int .i64)) (((tv.1.getD (v32).toNat ((0 : Int), ((0 : Int), ((0 : Int), ([] : (List (List Int))))))).2.2.2).getD (v39).toNat ([] : (List Int)))))), (30, [], .v (.c (.p (.sl (.pr (.int .i64) (.pr (.int .i64) (.pr (.int .i64) (.sl (.sl (.int .i64))))))) tv.1))), (31, [], .v (.c (.p (.int .i64) (tv.1.length : Int)))), (32, [], .v (.c (.p (.int .i64) v32))), (37, [], .v (.c (.p (.sl (.sl (.int .i64))) ((tv.1.getD (v32).toNat ((0 : Int), ((0 : Int), ((0 : Int), ([] : (List (List Int))))))).2.2.2)))), (38, [], .v (.c (.p (.int .i64) (((tv.1.getD (v32).toNat ((0 : Int), ((0 : Int), ((0 : Int), ([] : (List (List Int))))))).2.2.2).length : Int)))), (39, [], .v (.c (.p (.int .i64) v39)))], [(1, [], .box [.p (.sl (.pr (.int .i64) (.pr (.int .i64) (.pr (.int .i64) (.sl (.sl (.int .i64))))))) tv.1, .p (.int .i64) tv.2])]⟩ : St)) (by kernel_rfl) ⟨o1, trivial, trivial, trivial⟩ ?_
            refine awl_nil ?_
            refine thenQ_n ?_
            refine aw_seq ?_
            refine aw_region ?_
            obtain ⟨o1, h⟩ := h
            refine awl_runp 7 [1, 4, 30, 31, 32, 37, 38, 39, 46, 48, 49] [1] (ob := (True ∧ True ∧ True ∧ True ∧ ((decide ((0 : Int) < ((((tv.1.getD (v32).toNat ((0 : Int), ((0 : Int), ((0 : Int), ([] : (List (List Int))))))).2.2.2).getD (v39).toNat ([] : (List Int))).length : Int))) = true → True) ∧ ((decide ((0 : Int) < ((((tv.1.getD (v32).toNat ((0 : Int), ((0 : Int), ((0 : Int), ([] : (List (List Int))))))).2.2.2).getD (v39).toNat ([] : (List Int))).length : Int))) = true → (0 ≤ (1 : Int) ∧ (1 : Int) ≤ ((((tv.1.getD (v32).toNat ((0 : Int), ((0 : Int), ((0 : Int), ([] : (List (List Int))))))).2.2.2).getD (v39).toNat ([] : (List Int))).length : Int))) ∧ ((decide ((0 : Int) < ((((tv.1.getD (v32).toNat ((0 : Int), ((0 : Int), ((0 : Int), ([] : (List (List Int))))))).2.2.2).getD (v39).toNat ([] : (List Int))).length : Int))) = true → True) ∧ True)) (st' := (⟨67, [(1, [], .v (.c (.ptr 1 0))), (4, [], .v (.c (.ad (.int .i64) (tv.1.length : Int)))), (30, [], .v (.c (.p (.sl (.pr (.int .i64) (.pr (.int .i64) (.pr (.int .i64) (.sl (.sl (.int .i64))))))) tv.1))), (31, [], .v (.c (.p (.int .i64) (tv.1.length : Int)))), (32, [], .v (.c (.p (.int .i64) v32))), (37, [], .v (.c (.p (.sl (.sl (.int .i64))) ((tv.1.getD (v32).toNat ((0 : Int), ((0 : Int), ((0 : Int), ([] : (List (List Int))))))).2.2.2)))), (38, [], .v (.c (.p (.int .i64) (((tv.1.getD (v32).toNat ((0 : Int), ((0 : Int), ((0 : Int), ([] : (List (List Int))))))).2.2.2).length : Int)))), (39, [], .v (.c (.p (.int .i64) v39))), (46, [], .v (.c (.p .bool (decide ((0 : Int) < ((((tv.1.getD (v32).toNat ((0 : Int), ((0 : Int), ((0 : Int), ([] : (List (List Int))))))).2.2.2).getD (v39).toNat ([] : (List Int))).length : Int)))))), (48, [(46, true)], .v (.c (.p (.sl (.int .i64)) ((((tv.1.getD (v32).toNat ((0 : Int), ((0 : Int), ((0 : Int), ([] : (List (List Int))))))).2.2.2).getD (v39).toNat ([] : (List Int))).drop ((1 : Int)).toNat)))), (49, [(46, true)], .v (.c (.fn 68 [(⟨(.int .i64), (tv.1.length : Int)⟩ : Dat)])))], [(1, [], .box [.p (.sl (.pr (.int .i64) (.pr (.int .i64) (.pr (.int .i64) (.sl (.sl (.int .i64))))))) tv.1, .p (.int .i64) tv.2])]⟩ : St)) (by kernel_rfl) ⟨trivial, trivial, trivial, trivial, (fun _ => trivial), o1, (fun _ => trivial), trivial⟩ ?_
            refine awl_callk (p := [(46, true)]) (l := [toV1 (.sl (.int .i64)) ((((tv.1.getD (v32).toNat ((0 : Int), ((0 : Int), ((0 : Int), ([] : (List (List Int))))))).2.2.2).getD (v39).toNat ([] : (List Int))).drop ((1 : Int)).toNat), .c (.fn 68 [(⟨(.int .i64), (tv.1.length : Int)⟩ : Dat)])]) (cl := []) false [.d (.sl (.int .i64)), .fn] [1, 4, 30, 31, 32, 37, 38, 39, 46, 50] [1] (fun (ret50v : Bool) => ((((decide ((0 : Int) < ((((tv.1.getD (v32).toNat ((0 : Int), ((0 : Int), ((0 : Int), ([] : (List (List Int))))))).2.2.2).getD (v39).toNat ([] : (List Int))).length : Int))) && ret50v) = true → K (([] : (List Int)), false)) ∧ (((decide ((0 : Int) < ((((tv.1.getD (v32).toNat ((0 : Int), ((0 : Int), ((0 : Int), ([] : (List (List Int))))))).2.2.2).getD (v39).toNat ([] : (List Int))).length : Int))) && ret50v) = false → (InR (v39 + (1 : Int)) ∧ X3 (v39 + (1 : Int)))))) (fun ret50v => [toV1 .bool ret50v]) (fun ret50v => (⟨67, [(1, [], .v (.c (.ptr 1 0))), (4, [], .v (.c (.ad (.int .i64) (tv.1.length : Int)))), (30, [], .v (.c (.p (.sl (.pr (.int .i64) (.pr (.int .i64) (.pr (.int .i64) (.sl (.sl (.int .i64))))))) tv.1))), (31, [], .v (.c (.p (.int .i64) (tv.1.length : Int)))), (32, [], .v (.c (.p (.int .i64) v32))), (37, [], .v (.c (.p (.sl (.sl (.int .i64))) ((tv.1.getD (v32).toNat ((0 : Int), ((0 : Int), ((0 : Int), ([] : (List (List Int))))))).2.2.2)))), (38, [], .v (.c (.p (.int .i64) (((tv.1.getD (v32).toNat ((0 : Int), ((0 : Int), ((0 : Int), ([] : (List (List Int))))))).2.2.2).length : Int)))), (39, [], .v (.c (.p (.int .i64) v39))), (46, [], .v (.c (.p .bool (decide ((0 : Int) < ((((tv.1.getD (v32).toNat ((0 : Int), ((0 : Int), ((0 : Int), ([] : (List (List Int))))))).2.2.2).getD (v39).toNat ([] : (List Int))).length : Int)))))), (50, [(46, true)], .v (.c (.p .bool ret50v)))], [(1, [], .box [.p (.sl (.pr (.int .i64) (.pr (.int .i64) (.pr (.int .i64) (.sl (.sl (.int .i64))))))) tv.1, .p (.int .i64) tv.2])]⟩ : St)) (by kernel_rfl) rfl (by kernel_rfl) rfl (by kernel_rfl) Try.call48 (by kernel_rfl) (fun ret50v => by kernel_rfl) (fun e => by cases e) (fun hg => link48 ((((tv.1.getD (v32).toNat ((0 : Int), ((0 : Int), ((0 : Int), ([] : (List (List Int))))))).2.2.2).getD (v39).toNat ([] : (List Int))).drop ((1 : Int)).toNat) 68 [(⟨(.int .i64), (tv.1.length : Int)⟩ : Dat)] (fun (x : Int) (K : Bool → Prop) => VC68 x (tv.1.length : Int) K) ⟨Try.call68, fun x K h => link68 x (tv.1.length : Int) K h⟩ _ (by have := gcall_T h (show (decide ((0 : Int) < ((((tv.1.getD (v32).toNat ((0 : Int), ((0 : Int), ((0 : Int), ([] : (List (List Int))))))).2.2.2).getD (v39).toNat ([] : (List Int))).length : Int))) = true from hg); exact this)) (fun hg => ⟨false, by have := gcall_F h (show (decide ((0 : Int) < ((((tv.1.getD (v32).toNat ((0 : Int), ((0 : Int), ((0 : Int), ([] : (List (List Int))))))).2.2.2).getD (v39).toNat ([] : (List Int))).length : Int))) = false from hg); exact this⟩) (fun ret50v h => ?_)
            have h : ((((decide ((0 : Int) < ((((tv.1.getD (v32).toNat ((0 : Int), ((0 : Int), ((0 : Int), ([] : (List (List Int))))))).2.2.2).getD (v39).toNat ([] : (List Int))).length : Int))) && ret50v) = true → K (([] : (List Int)), false)) ∧ (((decide ((0 : Int) < ((((tv.1.getD (v32).toNat ((0 : Int), ((0 : Int), ((0 : Int), ([] : (List (List Int))))))).2.2.2).getD (v39).toNat ([] : (List Int))).length : Int))) && ret50v) = false → (InR (v39 + (1 : Int)) ∧ X3 (v39 + (1 : Int))))) := h
            refine awl_runp 1 [1, 4, 30, 31, 32, 37, 38, 39, 51] [1] (ob := (True ∧ True)) (st' := (⟨67, [(1, [], .v (.c (.ptr 1 0))), (4, [], .v (.c (.ad (.int .i64) (tv.1.length : Int)))), (30, [], .v (.c (.p (.sl (.pr (.int .i64) (.pr (.int .i64) (.pr (.int .i64) (.sl (.sl (.int .i64))))))) tv.1))), (31, [], .v (.c (.p (.int .i64) (tv.1.length : Int)))), (32, [], .v (.c (.p (.int .i64) v32))), (37, [], .v (.c (.p (.sl (.sl (.int .i64))) ((tv.1.getD (v32).toNat ((0 : Int), ((0 : Int), ((0 : Int), ([] : (List (List Int))))))).2.2.2)))), (38, [], .v (.c (.p (.int .i64) (((tv.1.getD (v32).toNat ((0 : Int), ((0 : Int), ((0 : Int), ([] : (List (List Int))))))).2.2.2).length : Int)))), (39, [], .v (.c (.p (.int .i64) v39))), (51, [], .v (.c (.p .bool ((decide ((0 : Int) < ((((tv.1.getD (v32).toNat ((0 : Int), ((0 : Int), ((0 : Int), ([] : (List (List Int))))))).2.2.2).getD (v39).toNat ([] : (List Int))).length : Int))) && ret50v))))], [(1, [], .box [.p (.sl (.pr (.int .i64) (.pr (.int .i64) (.pr (.int .i64) (.sl (.sl (.int .i64))))))) tv.1, .p (.int .i64) tv.2])]⟩ : St)) (by kernel_rfl) ⟨trivial, trivial⟩ ?_
            refine awl_nil ?_
            refine thenQ_n ?_
            refine aw_cond (b := ((decide ((0 : Int) < ((((tv.1.getD (v32).toNat ((0 : Int), ((0 : Int), ((0 : Int), ([] : (List (List Int))))))).2.2.2).getD (v39).toNat ([] : (List Int))).length : Int))) && ret50v)) (by kernel_rfl) (fun hb => ?_) (fun hb => ?_)
            · have h := h.1 hb
              refine aw_seq ?_
              refine aw_region ?_
              refine awl_runp 2 [2, 3] [] (ob := (True ∧ True ∧ True)) (st' := (⟨67, [(2, [], .v (.c (.nils))), (3, [], .v (.c (.p .bool false)))], []⟩ : St)) (by kernel_rfl) ⟨trivial, trivial, trivial⟩ ?_
              refine awl_nil ?_
              refine thenQ_n ?_
              refine aw_ret ?_
              refine blockQ_r ?_
              refine thenQ_r ?_
              refine thenQ_r ?_
              refine blockQ_r ?_
              refine blockQ_r ?_
              refine thenQ_r ?_
              refine thenQ_r ?_
              refine blockQ_r ?_
              refine thenQ_r ?_
              exact retQ_r (σ := (List Int) × Bool) (R := (fun y => [toV1 (.sl (.int .i64)) y.1, toV1 .bool y.2])) (ob := (True ∧ True ∧ True)) (([] : (List Int)), false) (by kernel_rfl) ⟨trivial, trivial, trivial⟩ h
            · have h := h.2 hb
              refine aw_skip ?_
              refine blockQ_n ?_
              refine thenQ_n ?_
              refine aw_region ?_
              obtain ⟨o1, h⟩ := h
              refine awl_runp 2 [1, 4, 30, 31, 32, 37, 38, 39] [1] (ob := (InR (v39 + (1 : Int)) ∧ True ∧ True)) (st' := (⟨67, [(1, [], .v (.c (.ptr 1 0))), (4, [], .v (.c (.ad (.int .i64) (tv.1.length : Int)))), (30, [], .v (.c (.p (.sl (.pr (.int .i64) (.pr (.int .i64) (.pr (.int .i64) (.sl (.sl (.int .i64))))))) tv.1))), (31, [], .v (.c (.p (.int .i64) (tv.1.length : Int)))), (32, [], .v (.c (.p (.int .i64) v32))), (37, [], .v (.c (.p (.sl (.sl (.int .i64))) ((tv.1.getD (v32).toNat ((0 : Int), ((0 : Int), ((0 : Int), ([] : (List (List Int))))))).2.2.2)))), (38, [], .v (.c (.p (.int .i64) (((tv.1.getD (v32).toNat ((0 : Int), ((0 : Int), ((0 : Int), ([] : (List (List Int))))))).2.2.2).length : Int)))), (39, [], .v (.c (.p (.int .i64) (v39 + (1 : Int)))))], [(1, [], .box [.p (.sl (.pr (.int .i64) (.pr (.int .i64) (.pr (.int .i64) (.sl (.sl (.int .i64))))))) tv.1, .p (.int .i64) tv.2])]⟩ : St)) (by kernel_rfl) ⟨o1, trivial, trivial⟩ ?_
              refine awl_nil ?_
              exact thenQ_n ⟨(v39 + (1 : Int)), rfl, h⟩
          · have h := h.2 hb
            refine aw_conv [.prune [1, 4, 30, 31, 32] [1]] (st' := (⟨67, [(1, [], .v (.c (.ptr 1 0))), (4, [], .v (.c (.ad (.int .i64) (tv.1.length : Int)))), (30, [], .v (.c (.p (.sl (.pr (.int .i64) (.pr (.int .i64) (.pr (.int .i64) (.sl (.sl (.int .i64))))))) tv.1))), (31, [], .v (.c (.p (.int .i64) (tv.1.length : Int)))), (32, [], .v (.c (.p (.int .i64) v32)))], [(1, [], .box [.p (.sl (.pr (.int .i64) (.pr (.int .i64) (.pr (.int .i64) (.sl (.sl (.int .i64))))))) tv.1, .p (.int .i64) tv.2])]⟩ : St)) (by kernel_rfl) ?_
            refine aw_exit ?_
            refine thenQ_x ?_
            refine thenQ_x ?_
            refine blockQ_hit ?_
            exact rest3 () h
      · have h := h.2 hb
        refine aw_conv [.prune [1, 4] [1]] (st' := (⟨67, [(1, [], .v (.c (.ptr 1 0))), (4, [], .v (.c (.ad (.int .i64) (tv.1.length : Int))))], [(1, [], .box [.p (.sl (.pr (.int .i64) (.pr (.int .i64) (.pr (.int .i64) (.sl (.sl (.int .i64))))))) tv.1, .p (.int .i64) tv.2])]⟩ : St)) (by kernel_rfl) ?_
        refine aw_exit ?_
        refine thenQ_x ?_
        refine thenQ_x ?_
        refine blockQ_hit ?_
        exact rest2 () h

-- coppicer/store.numbers
def VC47_k1 (K : (List Int) → Prop) (out : (List Int)) : Prop :=
  K out

def VC47_k2 (v17 : Int) (X1 : Int × (List Int) → Prop) (out2 : (List Int)) : Prop :=
  (InR (v17 + (1 : Int)) ∧ X1 ((v17 + (1 : Int)), out2))

def VC47_l2 (tv : ((List (Int × (Int × (Int × (List (List Int)))))) × Int)) (v17 : Int) (X1 : Int × (List Int) → Prop) (v36 : Int) (out2 : (List Int)) (X2 : Int × (List Int) → Prop) : Prop :=
  (((decide (v36 < (((tv.1.getD (v17).toNat ((0 : Int), ((0 : Int), ((0 : Int), ([] : (List (List Int))))))).2.2.2).length : Int))) = true → (inIdx v36 ((tv.1.getD (v17).toNat ((0 : Int), ((0 : Int), ((0 : Int), ([] : (List (List Int))))))).2.2.2).length ∧ (roomN (out2.length + [((((tv.1.getD (v17).toNat ((0 : Int), ((0 : Int), ((0 : Int), ([] : (List (List Int))))))).2.2.2).getD (v36).toNat ([] : (List Int))).length : Int)].length) ∧ (roomN ((out2 ++ [((((tv.1.getD (v17).toNat ((0 : Int), ((0 : Int), ((0 : Int), ([] : (List (List Int))))))).2.2.2).getD (v36).toNat ([] : (List Int))).length : Int)]).length + (((tv.1.getD (v17).toNat ((0 : Int), ((0 : Int), ((0 : Int), ([] : (List (List Int))))))).2.2.2).getD (v36).toNat ([] : (List Int))).length) ∧ (InR (v36 + (1 : Int)) ∧ X2 ((v36 + (1 : Int)), ((out2 ++ [((((tv.1.getD (v17).toNat ((0 : Int), ((0 : Int), ((0 : Int), ([] : (List (List Int))))))).2.2.2).getD (v36).toNat ([] : (List Int))).length : Int)]) ++ (((tv.1.getD (v17).toNat ((0 : Int), ((0 : Int), ((0 : Int), ([] : (List (List Int))))))).2.2.2).getD (v36).toNat ([] : (List Int)))))))))) ∧ ((decide (v36 < (((tv.1.getD (v17).toNat ((0 : Int), ((0 : Int), ((0 : Int), ([] : (List (List Int))))))).2.2.2).length : Int))) = false → VC47_k2 v17 X1 out2))

def VC47_l1 (tv : ((List (Int × (Int × (Int × (List (List Int)))))) × Int)) (K : (List Int) → Prop) (v17 : Int) (out : (List Int)) (X1 : Int × (List Int) → Prop) : Prop :=
  (((decide (v17 < (tv.1.length : Int))) = true → (inIdx v17 tv.1.length ∧ (roomN (out.length + [(tv.1.getD (v17).toNat ((0 : Int), ((0 : Int), ((0 : Int), ([] : (List (List Int))))))).1, (tv.1.getD (v17).toNat ((0 : Int), ((0 : Int), ((0 : Int), ([] : (List (List Int))))))).2.1, (tv.1.getD (v17).toNat ((0 : Int), ((0 : Int), ((0 : Int), ([] : (List (List Int))))))).2.2.1, (((tv.1.getD (v17).toNat ((0 : Int), ((0 : Int), ((0 : Int), ([] : (List (List Int))))))).2.2.2).length : Int)].length) ∧ Loop (σ := Int × (List Int)) (fun s X => VC47_l2 tv v17 X1 s.1 s.2 X) ((0 : Int), (out ++ [(tv.1.getD (v17).toNat ((0 : Int), ((0 : Int), ((0 : Int), ([] : (List (List Int))))))).1, (tv.1.getD (v17).toNat ((0 : Int), ((0 : Int), ((0 : Int), ([] : (List (List Int))))))).2.1, (tv.1.getD (v17).toNat ((0 : Int), ((0 : Int), ((0 : Int), ([] : (List (List Int))))))).2.2.1, (((tv.1.getD (v17).toNat ((0 : Int), ((0 : Int), ((0 : Int), ([] : (List (List Int))))))).2.2.2).length : Int)]))))) ∧ ((decide (v17 < (tv.1.length : Int))) = false → VC47_k1 K out))

def VC47 (tv : ((List (Int × (Int × (Int × (List (List Int)))))) × Int)) (K : (List Int) → Prop) : Prop :=
  Loop (σ := Int × (List Int)) (fun s X => VC47_l1 tv K s.1 s.2 X) ((0 : Int), [tv.2, (tv.1.length : Int)])

set_option maxHeartbeats 4000000 in
theorem link47 (tv : ((List (Int × (Int × (Int × (List (List Int)))))) × Int)) (K : (List Int) → Prop) (h : VC47 tv K) : ACalls Try.prog 47 [toV1 (.pr (.sl (.pr (.int .i64) (.pr (.int .i64) (.pr (.int .i64) (.sl (.sl (.int .i64))))))) (.int .i64)) tv] (fun res => ∃ y, res = (fun y => [toV1 (.sl (.int .i64)) y]) y ∧ K y) := by
  refine acalls_of_aw [(.sl (.int .i64))] [.t 2] Try.func47 rfl rfl rfl ?_
  unfold VC47 at h
  refine aw_seq ?_
  refine aw_region ?_
  refine awl_runp 2 [1] [1] (ob := (True ∧ True ∧ True)) (st' := (⟨51, [(1, [], .v (.c (.ptr 1 0)))], [(1, [], .box [.p (.sl (.pr (.int .i64) (.pr (.int .i64) (.pr (.int .i64) (.sl (.sl (.int .i64))))))) tv.1, .p (.int .i64) tv.2])]⟩ : St)) (by kernel_rfl) ⟨trivial, trivial, trivial⟩ ?_
  refine awl_nil ?_
  refine thenQ_n ?_
  refine aw_seq ?_
  refine aw_region ?_
  refine awl_runp 7 [1, 3] [1, 13] (ob := (True ∧ True ∧ True ∧ True ∧ True ∧ True ∧ True ∧ True)) (st' := (⟨51, [(1, [], .v (.c (.ptr 1 0))), (3, [], .v (.c (.own 13)))], [(1, [], .box [.p (.sl (.pr (.int .i64) (.pr (.int .i64) (.pr (.int .i64) (.sl (.sl (.int .i64))))))) tv.1, .p (.int .i64) tv.2]), (13, [], .arr 3 (.int .i64) [tv.2, (tv.1.length : Int)])]⟩ : St)) (by kernel_rfl) ⟨trivial, trivial, trivial, trivial, trivial, trivial, trivial, trivial⟩ ?_
  refine awl_nil ?_
  refine thenQ_n ?_
  refine aw_seq ?_
  refine aw_seq ?_
  refine aw_region ?_
  refine awl_runp 4 [3, 15, 16, 17] [13] (ob := (True ∧ True ∧ True ∧ True ∧ True)) (st' := (⟨51, [(3, [], .v (.c (.own 13))), (15, [], .v (.c (.p (.sl (.pr (.int .i64) (.pr (.int .i64) (.pr (.int .i64) (.sl (.sl (.int .i64))))))) tv.1))), (16, [], .v (.c (.p (.int .i64) (tv.1.length : Int)))), (17, [], .v (.c (.p (.int .i64) (0 : Int))))], [(13, [], .arr 3 (.int .i64) [tv.2, (tv.1.length : Int)])]⟩ : St)) (by kernel_rfl) ⟨trivial, trivial, trivial, trivial, trivial⟩ ?_
  refine awl_nil ?_
  refine thenQ_n ?_
  refine withJoin (σ := (List Int)) (fun s => (⟨51, [(3, [], .v (.c (.own 13)))], [(13, [], .arr 3 (.int .i64) s)]⟩ : St)) (fun s => VC47_k1 K s) (fun out h => ?_) (fun rest1 => ?_)
  · have h : VC47_k1 K out := h
    unfold VC47_k1 at h
    refine thenQ_n ?_
    refine aw_seq ?_
    refine aw_region ?_
    refine awl_runp 2 [2] [13] (ob := (True ∧ True ∧ True)) (st' := (⟨51, [(2, [], .v (.c (.own 13)))], [(13, [], .arr 3 (.int .i64) out)]⟩ : St)) (by kernel_rfl) ⟨trivial, trivial, trivial⟩ ?_
    refine awl_nil ?_
    refine thenQ_n ?_
    refine aw_conv [.freeze 13] (st' := (⟨51, [(2, [], .v (.c (.p (.sl (.int .i64)) out)))], []⟩ : St)) (by kernel_rfl) ?_
    refine aw_ret ?_
    exact retQ_r (σ := (List Int)) (R := (fun y => [toV1 (.sl (.int .i64)) y])) (ob := (True ∧ True)) out (by kernel_rfl) ⟨trivial, trivial⟩ h
  · refine aw_block ?_
    refine aw_loop (σ := Int × (List Int)) (fun s => (⟨51, [(3, [], .v (.c (.own 13))), (15, [], .v (.c (.p (.sl (.pr (.int .i64) (.pr (.int .i64) (.pr (.int .i64) (.sl (.sl (.int .i64))))))) tv.1))), (16, [], .v (.c (.p (.int .i64) (tv.1.length : Int)))), (17, [], .v (.c (.p (.int .i64) s.1)))], [(13, [], .arr 3 (.int .i64) s.2)]⟩ : St)) (fun s X => VC47_l1 tv K s.1 s.2 X) (s0 := ((0 : Int), [tv.2, (tv.1.length : Int)])) (fun s X1 h => ?_) h
    obtain ⟨v17, out⟩ := s
    have h : VC47_l1 tv K v17 out X1 := h
    unfold VC47_l1 at h
    refine aw_seq ?_
    refine aw_region ?_
    refine awl_runp 1 [3, 15, 16, 17, 18] [13] (ob := (True ∧ True)) (st' := (⟨51, [(3, [], .v (.c (.own 13))), (15, [], .v (.c (.p (.sl (.pr (.int .i64) (.pr (.int .i64) (.pr (.int .i64) (.sl (.sl (.int .i64))))))) tv.1))), (16, [], .v (.c (.p (.int .i64) (tv.1.length : Int)))), (17, [], .v (.c (.p (.int .i64) v17))), (18, [], .v (.c (.p .bool (decide (v17 < (tv.1.length : Int))))))], [(13, [], .arr 3 (.int .i64) out)]⟩ : St)) (by kernel_rfl) ⟨trivial, trivial⟩ ?_
    refine awl_nil ?_
    refine thenQ_n ?_
    refine aw_seq ?_
    refine aw_cond (b := (decide (v17 < (tv.1.length : Int)))) (by kernel_rfl) (fun hb => ?_) (fun hb => ?_)
    · have h := h.1 hb
      refine aw_skip ?_
      refine thenQ_n ?_
      refine aw_seq ?_
      refine aw_block ?_
      refine aw_seq ?_
      refine aw_region ?_
      obtain ⟨o1, h⟩ := h
      refine awl_runp 4 [3, 5, 15, 16, 17] [5, 13] (ob := (inIdx v17 tv.1.length ∧ True ∧ True ∧ True ∧ True)) (st' := (⟨51, [(3, [], .v (.c (.own 13))), (5, [], .v (.c (.ptr 5 0))), (15, [], .v (.c (.p (.sl (.pr (.int .i64) (.pr (.int .i64) (.pr (.int .i64) (.sl (.sl (.int .i64))))))) tv.1))), (16, [], .v (.c (.p (.int .i64) (tv.1.length : Int)))), (17, [], .v (.c (.p (.int .i64) v17)))], [(5, [], .box [.p (.int .i64) ((tv.1.getD (v17).toNat ((0 : Int), ((0 : Int), ((0 : Int), ([] : (List (List Int))))))).1), .p (.int .i64) ((tv.1.getD (v17).toNat ((0 : Int), ((0 : Int), ((0 : Int), ([] : (List (List Int))))))).2.1), .p (.int .i64) ((tv.1.getD (v17).toNat ((0 : Int), ((0 : Int), ((0 : Int), ([] : (List (List Int))))))).2.2.1), .p (.sl (.sl (.int .i64))) ((tv.1.getD (v17).toNat ((0 : Int), ((0 : Int), ((0 : Int), ([] : (List (List Int))))))).2.2.2)]), (13, [], .arr 3 (.int .i64) out)]⟩ : St)) (by kernel_rfl) ⟨o1, trivial, trivial, trivial, trivial⟩ ?_
      refine awl_nil ?_
      refine thenQ_n ?_
      refine aw_seq ?_
      refine aw_region ?_
      obtain ⟨o1, h⟩ := h
      refine awl_runp 13 [3, 5, 15, 16, 17] [5, 32] (ob := (True ∧ True ∧ True ∧ True ∧ True ∧ True ∧ True ∧ True ∧ True ∧ True ∧ True ∧ roomN (out.length + [(tv.1.getD (v17).toNat ((0 : Int), ((0 : Int), ((0 : Int), ([] : (List (List Int))))))).1, (tv.1.getD (v17).toNat ((0 : Int), ((0 : Int), ((0 : Int), ([] : (List (List Int))))))).2.1, (tv.1.getD (v17).toNat ((0 : Int), ((0 : Int), ((0 : Int), ([] : (List (List Int))))))).2.2.1, (((tv.1.getD (v17).toNat ((0 : Int), ((0 : Int), ((0 : Int), ([] : (List (List Int))))))).2.2.2).length : Int)].length) ∧ True ∧ True)) (st' := (⟨51, [(3, [], .v (.c (.own 32))), (5, [], .v (.c (.ptr 5 0))), (15, [], .v (.c (.p (.sl (.pr (.int .i64) (.pr (.int .i64) (.pr (.int .i64) (.sl (.sl (.int .i64))))))) tv.1))), (16, [], .v (.c (.p (.int .i64) (tv.1.length : Int)))), (17, [], .v (.c (.p (.int .i64) v17)))], [(5, [], .box [.p (.int .i64) ((tv.1.getD (v17).toNat ((0 : Int), ((0 : Int), ((0 : Int), ([] : (List (List Int))))))).1), .p (.int .i64) ((tv.1.getD (v17).toNat ((0 : Int), ((0 : Int), ((0 : Int), ([] : (List (List Int))))))).2.1), .p (.int .i64) ((tv.1.getD (v17).toNat ((0 : Int), ((0 : Int), ((0 : Int), ([] : (List (List Int))))))).2.2.1), .p (.sl (.sl (.int .i64))) ((tv.1.getD (v17).toNat ((0 : Int), ((0 : Int), ((0 : Int), ([] : (List (List Int))))))).2.2.2)]), (32, [], .arr 3 (.int .i64) (out ++ [(tv.1.getD (v17).toNat ((0 : Int), ((0 : Int), ((0 : Int), ([] : (List (List Int))))))).1, (tv.1.getD (v17).toNat ((0 : Int), ((0 : Int), ((0 : Int), ([] : (List (List Int))))))).2.1, (tv.1.getD (v17).toNat ((0 : Int), ((0 : Int), ((0 : Int), ([] : (List (List Int))))))).2.2.1, (((tv.1.getD (v17).toNat ((0 : Int), ((0 : Int), ((0 : Int), ([] : (List (List Int))))))).2.2.2).length : Int)]))]⟩ : St)) (by kernel_rfl) ⟨trivial, trivial, trivial, trivial, trivial, trivial, trivial, trivial, trivial, trivial, trivial, o1, trivial, trivial⟩ ?_
      refine awl_nil ?_
      refine thenQ_n ?_
      refine aw_seq ?_
      refine aw_region ?_
      refine awl_runp 4 [3, 15, 16, 17, 34, 35, 36] [32] (ob := (True ∧ True ∧ True ∧ True ∧ True)) (st' := (⟨51, [(3, [], .v (.c (.own 32))), (15, [], .v (.c (.p (.sl (.pr (.int .i64) (.pr (.int .i64) (.pr (.int .i64) (.sl (.sl (.int .i64))))))) tv.1))), (16, [], .v (.c (.p (.int .i64) (tv.1.length : Int)))), (17, [], .v (.c (.p (.int .i64) v17))), (34, [], .v (.c (.p (.sl (.sl (.int .i64))) ((tv.1.getD (v17).toNat ((0 : Int), ((0 : Int), ((0 : Int), ([] : (List (List Int))))))).2.2.2)))), (35, [], .v (.c (.p (.int .i64) (((tv.1.getD (v17).toNat ((0 : Int), ((0 : Int), ((0 : Int), ([] : (List (List Int))))))).2.2.2).length : Int)))), (36, [], .v (.c (.p (.int .i64) (0 : Int))))], [(32, [], .arr 3 (.int .i64) (out ++ [(tv.1.getD (v17).toNat ((0 : Int), ((0 : Int), ((0 : Int), ([] : (List (List Int))))))).1, (tv.1.getD (v17).toNat ((0 : Int), ((0 : Int), ((0 : Int), ([] : (List (List Int))))))).2.1, (tv.1.getD (v17).toNat ((0 : Int), ((0 : Int), ((0 : Int), ([] : (List (List Int))))))).2.2.1, (((tv.1.getD (v17).toNat ((0 : Int), ((0 : Int), ((0 : Int), ([] : (List (List Int))))))).2.2.2).length : Int)]))]⟩ : St)) (by kernel_rfl) ⟨trivial, trivial, trivial, trivial, trivial⟩ ?_
      refine awl_nil ?_
      refine thenQ_n ?_
      refine withJoin (σ := (List Int)) (fun s => (⟨51, [(3, [], .v (.c (.own 32))), (15, [], .v (.c (.p (.sl (.pr (.int .i64) (.pr (.int .i64) (.pr (.int .i64) (.sl (.sl (.int .i64))))))) tv.1))), (16, [], .v (.c (.p (.int .i64) (tv.1.length : Int)))), (17, [], .v (.c (.p (.int .i64) v17)))], [(32, [], .arr 3 (.int .i64) s)]⟩ : St)) (fun s => VC47_k2 v17 X1 s) (fun out2 h => ?_) (fun rest2 => ?_)
      · have h : VC47_k2 v17 X1 out2 := h
        unfold VC47_k2 at h
        refine blockQ_n ?_
        refine thenQ_n ?_
        refine aw_region ?_
        obtain ⟨o1, h⟩ := h
        refine awl_runp 2 [3, 15, 16, 17] [32] (ob := (InR (v17 + (1 : Int)) ∧ True ∧ True)) (st' := (⟨51, [(3, [], .v (.c (.own 32))), (15, [], .v (.c (.p (.sl (.pr (.int .i64) (.pr (.int .i64) (.pr (.int .i64) (.sl (.sl (.int .i64))))))) tv.1))), (16, [], .v (.c (.p (.int .i64) (tv.1.length : Int)))), (17, [], .v (.c (.p (.int .i64) (v17 + (1 : Int)))))], [(32, [], .arr 3 (.int .i64) out2)]⟩ : St)) (by kernel_rfl) ⟨o1, trivial, trivial⟩ ?_
        refine awl_conv [.ren 32 20032, .ren 20032 13] (st' := (⟨51, [(3, [], .v (.c (.own 13))), (15, [], .v (.c (.p (.sl (.pr (.int .i64) (.pr (.int .i64) (.pr (.int .i64) (.sl (.sl (.int .i64))))))) tv.1))), (16, [], .v (.c (.p (.int .i64) (tv.1.length : Int)))), (17, [], .v (.c (.p (.int .i64) (v17 + (1 : Int)))))], [(13, [], .arr 3 (.int .i64) out2)]⟩ : St)) (by kernel_rfl) ?_
        refine awl_nil ?_
        exact thenQ_n ⟨((v17 + (1 : Int)), out2), rfl, h⟩
      · refine aw_block ?_
        refine aw_loop (σ := Int × (List Int)) (fun s => (⟨51, [(3, [], .v (.c (.own 32))), (15, [], .v (.c (.p (.sl (.pr (.int .i64) (.pr (.int .i64) (.pr (.int .i64) (.sl (.sl (.int .i64))))))) tv.1))), (16, [], .v (.c (.p (.int .i64) (tv.1.length : Int)))), (17, [], .v (.c (.p (.int .i64) v17))), (34, [], .v (.c (.p (.sl (.sl (.int .i64))) ((tv.1.getD (v17).toNat ((0 : Int), ((0 : Int), ((0 : Int), ([] : (List (List Int))))))).2.2.2)))), (35, [], .v (.c (.p (.int .i64) (((tv.1.getD (v17).toNat ((0 : Int), ((0 : Int), ((0 : Int), ([] : (List (List Int))))))).2.2.2).length : Int)))), (36, [], .v (.c (.p (.int .i64) s.1)))], [(32, [], .arr 3 (.int .i64) s.2)]⟩ : St)) (fun s X => VC47_l2 tv v17 X1 s.1 s.2 X) (s0 := ((0 : Int), (out ++ [(tv.1.getD (v17).toNat ((0 : Int), ((0 : Int), ((0 : Int), ([] : (List (List Int))))))).1, (tv.1.getD (v17).toNat ((0 : Int), ((0 : Int), ((0 : Int), ([] : (List (List Int))))))).2.1, (tv.1.getD (v17).toNat ((0 : Int), ((0 : Int), ((0 : Int), ([] : (List (List Int))))))).2.2.1, (((tv.1.getD (v17).toNat ((0 : Int), ((0 : Int), ((0 : Int), ([] : (List (List Int))))))).2.2.2).length : Int)]))) (fun s X2 h => ?_) h
        obtain ⟨v36, out2⟩ := s
        have h : VC47_l2 tv v17 X1 v36 out2 X2 := h
        unfold VC47_l2 at h
        refine aw_seq ?_
        refine aw_region ?_
        refine awl_runp 1 [3, 15, 16, 17, 34, 35, 36, 37] [32] (ob := (True ∧ True)) (st' := (⟨51, [(3, [], .v (.c (.own 32))), (15, [], .v (.c (.p (.sl (.pr (.int .i64) (.pr (.int .i64) (.pr (.int .i64) (.sl (.sl (.int .i64))))))) tv.1))), (16, [], .v (.c (.p (.int .i64) (tv.1.length : Int)))), (17, [], .v (.c (.p (.int .i64) v17))), (34, [], .v (.c (.p (.sl (.sl (.int .i64))) ((tv.1.getD (v17).toNat ((0 : Int), ((0 : Int), ((0 : Int), ([] : (List (List Int))))))).2.2.2)))), (35, [], .v (.c (.p (.int .i64) (((tv.1.getD (v17).toNat ((0 : Int), ((0 : Int), ((0 : Int), ([] : (List (List Int))))))).2.2.2).length : Int)))), (36, [], .v (.c (.p (.int .i64) v36))), (37, [], .v (.c (.p .bool (decide (v36 < (((tv.1.getD (v17).toNat ((0 : Int), ((0 : Int), ((0 : Int), ([] : (List (List Int))))))).2.2.2).length : Int))))))], [(32, [], .arr 3 (.int .i64) out2)]⟩ : St)) (by kernel_rfl) ⟨trivial, trivial⟩ ?_
        refine awl_nil ?_
        refine thenQ_n ?_
        refine aw_seq ?_
        refine aw_cond (b := (decide (v36 < (((tv.1.getD (v17).toNat ((0 : Int), ((0 : Int), ((0 : Int), ([] : (List (List Int))))))).2.2.2).length : Int)))) (by kernel_rfl) (fun hb => ?_) (fun hb => ?_)
        · have h := h.1 hb
          refine aw_skip ?_
          refine thenQ_n ?_
          refine aw_seq ?_
          refine aw_block ?_
          refine aw_seq ?_
          refine aw_region ?_
          obtain ⟨o1, h⟩ := h
          refine awl_runp 3 [3, 7, 15, 16, 17, 34, 35, 36] [32] (ob := (inIdx v36 ((tv.1.getD (v17).toNat ((0 : Int), ((0 : Int), ((0 : Int), ([] : (List (List Int))))))).2.2.2).length ∧ True ∧ True ∧ True)) (st' := (⟨51, [(3, [], .v (.c (.own 32))), (7, [], .v (.c (.p (.sl (.int .i64)) (((tv.1.getD (v17).toNat ((0 : Int), ((0 : Int), ((0 : Int), ([] : (List (List Int))))))).2.2.2).getD (v36).toNat ([] : (List Int)))))), (15, [], .v (.c (.p (.sl (.pr (.int .i64) (.pr (.int .i64) (.pr (.int .i64) (.sl (.sl (.int .i64))))))) tv.1))), (16, [], .v (.c (.p (.int .i64) (tv.1.length : Int)))), (17, [], .v (.c (.p (.int .i64) v17))), (34, [], .v (.c (.p (.sl (.sl (.int .i64))) ((tv.1.getD (v17).toNat ((0 : Int), ((0 : Int), ((0 : Int), ([] : (List (List Int))))))).2.2.2)))), (35, [], .v (.c (.p (.int .i64) (((tv.1.getD (v17).toNat ((0 : Int), ((0 : Int), ((0 : Int), ([] : (List (List Int))))))).2.2.2).length : Int)))), (36, [], .v (.c (.p (.int .i64) v36)))], [(32, [], .arr 3 (.int .i64) out2)]⟩ : St)) (by kernel_rfl) ⟨o1, trivial, trivial, trivial⟩ ?_
          refine awl_nil ?_
          refine thenQ_n ?_
          refine aw_seq ?_
          refine aw_region ?_
          obtain ⟨o1, h⟩ := h
          refine awl_runp 6 [3, 7, 15, 16, 17, 34, 35, 36] [44] (ob := (True ∧ True ∧ True ∧ True ∧ roomN (out2.length + [((((tv.1.getD (v17).toNat ((0 : Int), ((0 : Int), ((0 : Int), ([] : (List (List Int))))))).2.2.2).getD (v36).toNat ([] : (List Int))).length : Int)].length) ∧ True ∧ True)) (st' := (⟨51, [(3, [], .v (.c (.own 44))), (7, [], .v (.c (.p (.sl (.int .i64)) (((tv.1.getD (v17).toNat ((0 : Int), ((0 : Int), ((0 : Int), ([] : (List (List Int))))))).2.2.2).getD (v36).toNat ([] : (List Int)))))), (15, [], .v (.c (.p (.sl (.pr (.int .i64) (.pr (.int .i64) (.pr (.int .i64) (.sl (.sl (.int .i64))))))) tv.1))), (16, [], .v (.c (.p (.int .i64) (tv.1.length : Int)))), (17, [], .v (.c (.p (.int .i64) v17))), (34, [], .v (.c (.p (.sl (.sl (.int .i64))) ((tv.1.getD (v17).toNat ((0 : Int), ((0 : Int), ((0 : Int), ([] : (List (List Int))))))).2.2.2)))), (35, [], .v (.c (.p (.int .i64) (((tv.1.getD (v17).toNat ((0 : Int), ((0 : Int), ((0 : Int), ([] : (List (List Int))))))).2.2.2).length : Int)))), (36, [], .v (.c (.p (.int .i64) v36)))], [(44, [], .arr 3 (.int .i64) (out2 ++ [((((tv.1.getD (v17).toNat ((0 : Int), ((0 : Int), ((0 : Int), ([] : (List (List Int))))))).2.2.2).getD (v36).toNat ([] : (List Int))).length : Int)]))]⟩ : St)) (by kernel_rfl) ⟨trivial, trivial, trivial, trivial, o1, trivial, trivial⟩ ?_
          refine awl_nil ?_
          refine thenQ_n ?_
          refine aw_region ?_
          obtain ⟨o1, h⟩ := h
          refine awl_runp 4 [3, 15, 16, 17, 34, 35, 36] [47] (ob := (True ∧ True ∧ roomN ((out2 ++ [((((tv.1.getD (v17).toNat ((0 : Int), ((0 : Int), ((0 : Int), ([] : (List (List Int))))))).2.2.2).getD (v36).toNat ([] : (List Int))).length : Int)]).length + (((tv.1.getD (v17).toNat ((0 : Int), ((0 : Int), ((0 : Int), ([] : (List (List Int))))))).2.2.2).getD (v36).toNat ([] : (List Int))).length) ∧ True ∧ True)) (st' := (⟨51, [(3, [], .v (.c (.own 47))), (15, [], .v (.c (.p (.sl (.pr (.int .i64) (.pr (.int .i64) (.pr (.int .i64) (.sl (.sl (.int .i64))))))) tv.1))), (16, [], .v (.c (.p (.int .i64) (tv.1.length : Int)))), (17, [], .v (.c (.p (.int .i64) v17))), (34, [], .v (.c (.p (.sl (.sl (.int .i64))) ((tv.1.getD (v17).toNat ((0 : Int), ((0 : Int), ((0 : Int), ([] : (List (List Int))))))).2.2.2)))), (35, [], .v (.c (.p (.int .i64) (((tv.1.getD (v17).toNat ((0 : Int), ((0 : Int), ((0 : Int), ([] : (List (List Int))))))).2.2.2).length : Int)))), (36, [], .v (.c (.p (.int .i64) v36)))], [(47, [], .arr 3 (.int .i64) ((out2 ++ [((((tv.1.getD (v17).toNat ((0 : Int), ((0 : Int), ((0 : Int), ([] : (List (List Int))))))).2.2.2).getD (v36).toNat ([] : (List Int))).length : Int)]) ++ (((tv.1.getD (v17).toNat ((0 : Int), ((0 : Int), ((0 : Int), ([] : (List (List Int))))))).2.2.2).getD (v36).toNat ([] : (List Int)))))]⟩ : St)) (by kernel_rfl) ⟨trivial, trivial, o1, trivial, trivial⟩ ?_
          refine awl_nil ?_
          refine blockQ_n ?_
          refine thenQ_n ?_
          refine aw_region ?_
          obtain ⟨o1, h⟩ := h
          refine awl_runp 2 [3, 15, 16, 17, 34, 35, 36] [47] (ob := (InR (v36 + (1 : Int)) ∧ True ∧ True)) (st' := (⟨51, [(3, [], .v (.c (.own 47))), (15, [], .v (.c (.p (.sl (.pr (.int .i64) (.pr (.int .i64) (.pr (.int .i64) (.sl (.sl (.int .i64))))))) tv.1))), (16, [], .v (.c (.p (.int .i64) (tv.1.length : Int)))), (17, [], .v (.c (.p (.int .i64) v17))), (34, [], .v (.c (.p (.sl (.sl (.int .i64))) ((tv.1.getD (v17).toNat ((0 : Int), ((0 : Int), ((0 : Int), ([] : (List (List Int))))))).2.2.2)))), (35, [], .v (.c (.p (.int .i64) (((tv.1.getD (v17).toNat ((0 : Int), ((0 : Int), ((0 : Int), ([] : (List (List Int))))))).2.2.2).length : Int)))), (36, [], .v (.c (.p (.int .i64) (v36 + (1 : Int)))))], [(47, [], .arr 3 (.int .i64) ((out2 ++ [((((tv.1.getD (v17).toNat ((0 : Int), ((0 : Int), ((0 : Int), ([] : (List (List Int))))))).2.2.2).getD (v36).toNat ([] : (List Int))).length : Int)]) ++ (((tv.1.getD (v17).toNat ((0 : Int), ((0 : Int), ((0 : Int), ([] : (List (List Int))))))).2.2.2).getD (v36).toNat ([] : (List Int)))))]⟩ : St)) (by kernel_rfl) ⟨o1, trivial, trivial⟩ ?_
          refine awl_conv [.ren 47 20047, .ren 20047 32] (st' := (⟨51, [(3, [], .v (.c (.own 32))), (15, [], .v (.c (.p (.sl (.pr (.int .i64) (.pr (.int .i64) (.pr (.int .i64) (.sl (.sl (.int .i64))))))) tv.1))), (16, [], .v (.c (.p (.int .i64) (tv.1.length : Int)))), (17, [], .v (.c (.p (.int .i64) v17))), (34, [], .v (.c (.p (.sl (.sl (.int .i64))) ((tv.1.getD (v17).toNat ((0 : Int), ((0 : Int), ((0 : Int), ([] : (List (List Int))))))).2.2.2)))), (35, [], .v (.c (.p (.int .i64) (((tv.1.getD (v17).toNat ((0 : Int), ((0 : Int), ((0 : Int), ([] : (List (List Int))))))).2.2.2).length : Int)))), (36, [], .v (.c (.p (.int .i64) (v36 + (1 : Int)))))], [(32, [], .arr 3 (.int .i64) ((out2 ++ [((((tv.1.getD (v17).toNat ((0 : Int), ((0 : Int), ((0 : Int), ([] : (List (List Int))))))).2.2.2).getD (v36).toNat ([] : (List Int))).length : Int)]) ++ (((tv.1.getD (v17).toNat ((0 : Int), ((0 : Int), ((0 : Int), ([] : (List (List Int))))))).2.2.2).getD (v36).toNat ([] : (List Int)))))]⟩ : St)) (by kernel_rfl) ?_
          refine awl_nil ?_
          exact thenQ_n ⟨((v36 + (1 : Int)), ((out2 ++ [((((tv.1.getD (v17).toNat ((0 : Int), ((0 : Int), ((0 : Int), ([] : (List (List Int))))))).2.2.2).getD (v36).toNat ([] : (List Int))).length : Int)]) ++ (((tv.1.getD (v17).toNat ((0 : Int), ((0 : Int), ((0 : Int), ([] : (List (List Int))))))).2.2.2).getD (v36).toNat ([] : (List Int))))), rfl, h⟩
        · have h := h.2 hb
          refine aw_conv [.prune [3, 15, 16, 17] [32]] (st' := (⟨51, [(3, [], .v (.c (.own 32))), (15, [], .v (.c (.p (.sl (.pr (.int .i64) (.pr (.int .i64) (.pr (.int .i64) (.sl (.sl (.int .i64))))))) tv.1))), (16, [], .v (.c (.p (.int .i64) (tv.1.length : Int)))), (17, [], .v (.c (.p (.int .i64) v17)))], [(32, [], .arr 3 (.int .i64) out2)]⟩ : St)) (by kernel_rfl) ?_
          refine aw_exit ?_
          refine thenQ_x ?_
          refine thenQ_x ?_
          refine blockQ_hit ?_
          exact rest2 out2 h
    · have h := h.2 hb
      refine aw_conv [.prune [3] [13]] (st' := (⟨51, [(3, [], .v (.c (.own 13)))], [(13, [], .arr 3 (.int .i64) out)]⟩ : St)) (by kernel_rfl) ?_
      refine aw_exit ?_
      refine thenQ_x ?_
      refine thenQ_x ?_
      refine blockQ_hit ?_
      exact rest1 out h

-- coppicer/store.Pack$1
def VC49 (x : Int) (K : Bool → Prop) : Prop :=
  K ((decide (x < (0 : Int))) || (decide ((65535 : Int) < x)))

set_option maxHeartbeats 4000000 in
theorem link49 (x : Int) (K : Bool → Prop) (h : VC49 x K) : ACalls Try.prog 49 [toV1 (.int .i64) x] (fun res => ∃ y, res = (fun y => [toV1 .bool y]) y ∧ K y) := by
  refine acalls_of_aw [.bool] [.t 2] Try.func49 rfl rfl rfl ?_
  unfold VC49 at h
  refine aw_seq ?_
  refine aw_region ?_
  refine awl_runp 1 [0] [] (ob := (True ∧ True)) (st' := (⟨9, [(0, [], .v (.c (.p (.int .i64) x)))], []⟩ : St)) (by kernel_rfl) ⟨trivial, trivial⟩ ?_
  refine awl_nil ?_
  refine thenQ_n ?_
  refine aw_seq ?_
  refine aw_region ?_
  refine awl_runp 7 [2] [] (ob := (True ∧ True ∧ True ∧ ((decide (x < (0 : Int))) = false → True) ∧ ((decide (x < (0 : Int))) = false → True) ∧ True ∧ True ∧ True)) (st' := (⟨9, [(2, [], .v (.c (.p .bool ((decide (x < (0 : Int))) || (decide ((65535 : Int) < x))))))], []⟩ : St)) (by kernel_rfl) ⟨trivial, trivial, trivial, (fun _ => trivial), (fun _ => trivial), trivial, trivial, trivial⟩ ?_
  refine awl_nil ?_
  refine thenQ_n ?_
  refine aw_ret ?_
  exact retQ_r (σ := Bool) (R := (fun y => [toV1 .bool y])) (ob := (True ∧ True)) ((decide (x < (0 : Int))) || (decide ((65535 : Int) < x))) (by kernel_rfl) ⟨trivial, trivial⟩ h

-- coppicer/store.Pack
def VC26_k1 (K : (List Int) × Int → Prop) (out : (List Int)) : Prop :=
  VC14 out (fun (ret43v : (List Int)) => (roomN (out.length + ret43v.length) ∧ K ((out ++ ret43v), (0 : Int))))

def VC26_l1 (K : (List Int) × Int → Prop) (ret18v : (List Int)) (v28 : Int) (out : (List Int)) (X1 : Int × (List Int) → Prop) : Prop :=
  (((decide (v28 < (ret18v.length : Int))) = true → (inIdx v28 ret18v.length ∧ ((0 ≤ (ret18v.getD (v28).toNat (0 : Int)) ∧ 0 ≤ (8 : Int)) ∧ roomN (out.length + [(IntKind.wrap .u8 (ret18v.getD (v28).toNat (0 : Int))), (IntKind.wrap .u8 (bShr .i64 (ret18v.getD (v28).toNat (0 : Int)) (8 : Int)))].length) ∧ (InR (v28 + (1 : Int)) ∧ X1 ((v28 + (1 : Int)), (out ++ [(IntKind.wrap .u8 (ret18v.getD (v28).toNat (0 : Int))), (IntKind.wrap .u8 (bShr .i64 (ret18v.getD (v28).toNat (0 : Int)) (8 : Int)))])))))) ∧ ((decide (v28 < (ret18v.length : Int))) = false → VC26_k1 K out))

def VC26 (tv : ((List (Int × (Int × (Int × (List (List Int)))))) × Int)) (K : (List Int) × Int → Prop) : Prop :=
  VC46 tv (fun (ret12v : (List Int) × Bool) => (((!ret12v.2) = true → K (([] : (List Int)), (3 : Int))) ∧ ((!ret12v.2) = false → VC47 tv (fun (ret18v : (List Int)) => VC48 ret18v (fun (x : Int) (K : Bool → Prop) => VC49 x K) (fun (ret20v : Bool) => ((ret20v = true → K (([] : (List Int)), (3 : Int))) ∧ (ret20v = false → (InR ((2 : Int) * (ret18v.length : Int)) ∧ InR (((2 : Int) * (ret18v.length : Int)) + (4 : Int)) ∧ (((decide ((4000 : Int) < (((2 : Int) * (ret18v.length : Int)) + (4 : Int)))) = true → K (([] : (List Int)), (1 : Int))) ∧ ((decide ((4000 : Int) < (((2 : Int) * (ret18v.length : Int)) + (4 : Int)))) = false → Loop (σ := Int × (List Int)) (fun s X => VC26_l1 K ret18v s.1 s.2 X) ((0 : Int), ([] : List Int))))))))))))

set_option maxHeartbeats 4000000 in
theorem link26 (tv : ((List (Int × (Int × (Int × (List (List Int)))))) × Int)) (K : (List Int) × Int → Prop) (h : VC26 tv K) : ACalls Try.prog 26 [toV1 (.pr (.sl (.pr (.int .i64) (.pr (.int .i64) (.pr (.int .i64) (.sl (.sl (.int .i64))))))) (.int .i64)) tv] (fun res => ∃ y, res = (fun y => [toV1 (.sl (.int .u8)) y.1, toV1 (.int .i64) y.2]) y ∧ K y) := by
  refine acalls_of_aw [(.sl (.int .u8)), (.int .i64)] [.t 2, .t 3] Try.func26 rfl rfl rfl ?_
  unfold VC26 at h
  refine aw_seq ?_
  refine aw_region ?_
  refine awl_runp 3 [1] [1] (ob := (True ∧ True ∧ True ∧ True)) (st' := (⟨45, [(1, [], .v (.c (.ptr 1 0)))], [(1, [], .box [.p (.sl (.pr (.int .i64) (.pr (.int .i64) (.pr (.int .i64) (.sl (.sl (.int .i64))))))) tv.1, .p (.int .i64) tv.2])]⟩ : St)) (by kernel_rfl) ⟨trivial, trivial, trivial, trivial⟩ ?_
  refine awl_nil ?_
  refine thenQ_n ?_
  refine aw_seq ?_
  refine aw_seq ?_
  refine aw_region ?_
  refine awl_runp 1 [1, 11] [1] (ob := (True ∧ True)) (st' := (⟨45, [(1, [], .v (.c (.ptr 1 0))), (11, [], .v (.agg [.p (.sl (.pr (.int .i64) (.pr (.int .i64) (.pr (.int .i64) (.sl (.sl (.int .i64))))))) tv.1, .p (.int .i64) tv.2]))], [(1, [], .box [.p (.sl (.pr (.int .i64) (.pr (.int .i64) (.pr (.int .i64) (.sl (.sl (.int .i64))))))) tv.1, .p (.int .i64) tv.2])]⟩ : St)) (by kernel_rfl) ⟨trivial, trivial⟩ ?_
  refine awl_callk (p := []) (l := [toV1 (.pr (.sl (.pr (.int .i64) (.pr (.int .i64) (.pr (.int .i64) (.sl (.sl (.int .i64))))))) (.int .i64)) tv]) (cl := []) false [.d (.pr (.sl (.pr (.int .i64) (.pr (.int .i64) (.pr (.int .i64) (.sl (.sl (.int .i64))))))) (.int .i64))] [1, 12] [1] (fun (ret12v : (List Int) × Bool) => (((!ret12v.2) = true → K (([] : (List Int)), (3 : Int))) ∧ ((!ret12v.2) = false → VC47 tv (fun (ret18v : (List Int)) => VC48 ret18v (fun (x : Int) (K : Bool → Prop) => VC49 x K) (fun (ret20v : Bool) => ((ret20v = true → K (([] : (List Int)), (3 : Int))) ∧ (ret20v = false → (InR ((2 : Int) * (ret18v.length : Int)) ∧ InR (((2 : Int) * (ret18v.length : Int)) + (4 : Int)) ∧ (((decide ((4000 : Int) < (((2 : Int) * (ret18v.length : Int)) + (4 : Int)))) = true → K (([] : (List Int)), (1 : Int))) ∧ ((decide ((4000 : Int) < (((2 : Int) * (ret18v.length : Int)) + (4 : Int)))) = false → Loop (σ := Int × (List Int)) (fun s X => VC26_l1 K ret18v s.1 s.2 X) ((0 : Int), ([] : List Int)))))))))))) (fun ret12v => [toV1 (.sl (.int .i64)) ret12v.1, toV1 .bool ret12v.2]) (fun ret12v => (⟨45, [(1, [], .v (.c (.ptr 1 0))), (12, [], .tup [.c (.p (.sl (.int .i64)) ret12v.1), .c (.p .bool ret12v.2)])], [(1, [], .box [.p (.sl (.pr (.int .i64) (.pr (.int .i64) (.pr (.int .i64) (.sl (.sl (.int .i64))))))) tv.1, .p (.int .i64) tv.2])]⟩ : St)) (by kernel_rfl) rfl (by kernel_rfl) rfl (by kernel_rfl) Try.call46 (by kernel_rfl) (fun ret12v => by kernel_rfl) (fun e => by cases e) (fun hg => link46 tv _ h) (fun hg => noF hg) (fun ret12v h => ?_)
  have h : (((!ret12v.2) = true → K (([] : (List Int)), (3 : Int))) ∧ ((!ret12v.2) = false → VC47 tv (fun (ret18v : (List Int)) => VC48 ret18v (fun (x : Int) (K : Bool → Prop) => VC49 x K) (fun (ret20v : Bool) => ((ret20v = true → K (([] : (List Int)), (3 : Int))) ∧ (ret20v = false → (InR ((2 : Int) * (ret18v.length : Int)) ∧ InR (((2 : Int) * (ret18v.length : Int)) + (4 : Int)) ∧ (((decide ((4000 : Int) < (((2 : Int) * (ret18v.length : Int)) + (4 : Int)))) = true → K (([] : (List Int)), (1 : Int))) ∧ ((decide ((4000 : Int) < (((2 : Int) * (ret18v.length : Int)) + (4 : Int)))) = false → Loop (σ := Int × (List Int)) (fun s X => VC26_l1 K ret18v s.1 s.2 X) ((0 : Int), ([] : List Int))))))))))) := h
  refine awl_runp 5 [1, 5] [1] (ob := (True ∧ True ∧ True ∧ True ∧ True ∧ True)) (st' := (⟨45, [(1, [], .v (.c (.ptr 1 0))), (5, [], .v (.c (.p .bool ret12v.2)))], [(1, [], .box [.p (.sl (.pr (.int .i64) (.pr (.int .i64) (.pr (.int .i64) (.sl (.sl (.int .i64))))))) tv.1, .p (.int .i64) tv.2])]⟩ : St)) (by kernel_rfl) ⟨trivial, trivial, trivial, trivial, trivial, trivial⟩ ?_
  refine awl_nil ?_
  refine thenQ_n ?_
  refine aw_seq ?_
  refine aw_region ?_
  refine awl_runp 2 [1, 16] [1] (ob := (True ∧ True ∧ True)) (st' := (⟨45, [(1, [], .v (.c (.ptr 1 0))), (16, [], .v (.c (.p .bool (!ret12v.2))))], [(1, [], .box [.p (.sl (.pr (.int .i64) (.pr (.int .i64) (.pr (.int .i64) (.sl (.sl (.int .i64))))))) tv.1, .p (.int .i64) tv.2])]⟩ : St)) (by kernel_rfl) ⟨trivial, trivial, trivial⟩ ?_
  refine awl_nil ?_
  refine thenQ_n ?_
  refine aw_cond (b := (!ret12v.2)) (by kernel_rfl) (fun hb => ?_) (fun hb => ?_)
  · have h := h.1 hb
    refine aw_seq ?_
    refine aw_region ?_
    refine awl_runp 2 [2, 3] [] (ob := (True ∧ True ∧ True)) (st' := (⟨45, [(2, [], .v (.c (.nils))), (3, [], .v (.c (.p (.int .i64) (3 : Int))))], []⟩ : St)) (by kernel_rfl) ⟨trivial, trivial, trivial⟩ ?_
    refine awl_nil ?_
    refine thenQ_n ?_
    refine aw_ret ?_
    refine thenQ_r ?_
    exact retQ_r (σ := (List Int) × Int) (R := (fun y => [toV1 (.sl (.int .u8)) y.1, toV1 (.int .i64) y.2])) (ob := (True ∧ True ∧ True)) (([] : (List Int)), (3 : Int)) (by kernel_rfl) ⟨trivial, trivial, trivial⟩ h
  · have h := h.2 hb
    refine aw_skip ?_
    refine thenQ_n ?_
    refine aw_seq ?_
    refine aw_region ?_
    refine awl_runp 1 [17] [] (ob := (True ∧ True)) (st' := (⟨45, [(17, [], .v (.agg [.p (.sl (.pr (.int .i64) (.pr (.int .i64) (.pr (.int .i64) (.sl (.sl (.int .i64))))))) tv.1, .p (.int .i64) tv.2]))], []⟩ : St)) (by kernel_rfl) ⟨trivial, trivial⟩ ?_
    refine awl_callk (p := []) (l := [toV1 (.pr (.sl (.pr (.int .i64) (.pr (.int .i64) (.pr (.int .i64) (.sl (.sl (.int .i64))))))) (.int .i64)) tv]) (cl := []) false [.d (.pr (.sl (.pr (.int .i64) (.pr (.int .i64) (.pr (.int .i64) (.sl (.sl (.int .i64))))))) (.int .i64))] [18] [] (fun (ret18v : (List Int)) => VC48 ret18v (fun (x : Int) (K : Bool → Prop) => VC49 x K) (fun (ret20v : Bool) => ((ret20v = true → K (([] : (List Int)), (3 : Int))) ∧ (ret20v = false → (InR ((2 : Int) * (ret18v.length : Int)) ∧ InR (((2 : Int) * (ret18v.length : Int)) + (4 : Int)) ∧ (((decide ((4000 : Int) < (((2 : Int) * (ret18v.length : Int)) + (4 : Int)))) = true → K (([] : (List Int)), (1 : Int))) ∧ ((decide ((4000 : Int) < (((2 : Int) * (ret18v.length : Int)) + (4 : Int)))) = false → Loop (σ := Int × (List Int)) (fun s X => VC26_l1 K ret18v s.1 s.2 X) ((0 : Int), ([] : List Int))))))))) (fun ret18v => [toV1 (.sl (.int .i64)) ret18v]) (fun ret18v => (⟨45, [(18, [], .v (.c (.p (.sl (.int .i64)) ret18v)))], []⟩ : St)) (by kernel_rfl) rfl (by kernel_rfl) rfl (by kernel_rfl) Try.call47 (by kernel_rfl) (fun ret18v => by kernel_rfl) (fun e => by cases e) (fun hg => link47 tv _ h) (fun hg => noF hg) (fun ret18v h => ?_)
    have h : VC48 ret18v (fun (x : Int) (K : Bool → Prop) => VC49 x K) (fun (ret20v : Bool) => ((ret20v = true → K (([] : (List Int)), (3 : Int))) ∧ (ret20v = false → (InR ((2 : Int) * (ret18v.length : Int)) ∧ InR (((2 : Int) * (ret18v.length : Int)) + (4 : Int)) ∧ (((decide ((4000 : Int) < (((2 : Int) * (ret18v.length : Int)) + (4 : Int)))) = true → K (([] : (List Int)), (1 : Int))) ∧ ((decide ((4000 : Int) < (((2 : Int) * (ret18v.length : Int)) + (4 : Int)))) = false → Loop (σ := Int × (List Int)) (fun s X => VC26_l1 K ret18v s.1 s.2 X) ((0 : Int), ([] : List Int)))))))) := h
    refine awl_runp 1 [6] [] (ob := (True ∧ True)) (st' := (⟨45, [(6, [], .v (.c (.p (.sl (.int .i64)) ret18v)))], []⟩ : St)) (by kernel_rfl) ⟨trivial, trivial⟩ ?_
    refine awl_nil ?_
    refine thenQ_n ?_
    refine aw_seq ?_
    refine aw_seq ?_
    refine aw_region ?_
    refine awl_runp 1 [6, 19] [] (ob := (True ∧ True)) (st' := (⟨45, [(6, [], .v (.c (.p (.sl (.int .i64)) ret18v))), (19, [], .v (.c (.p (.sl (.int .i64)) ret18v)))], []⟩ : St)) (by kernel_rfl) ⟨trivial, trivial⟩ ?_
    refine awl_callk (p := []) (l := [toV1 (.sl (.int .i64)) ret18v, .c (.fn 49 [])]) (cl := []) false [.d (.sl (.int .i64)), .fn] [6, 20] [] (fun (ret20v : Bool) => ((ret20v = true → K (([] : (List Int)), (3 : Int))) ∧ (ret20v = false → (InR ((2 : Int) * (ret18v.length : Int)) ∧ InR (((2 : Int) * (ret18v.length : Int)) + (4 : Int)) ∧ (((decide ((4000 : Int) < (((2 : Int) * (ret18v.length : Int)) + (4 : Int)))) = true → K (([] : (List Int)), (1 : Int))) ∧ ((decide ((4000 : Int) < (((2 : Int) * (ret18v.length : Int)) + (4 : Int)))) = false → Loop (σ := Int × (List Int)) (fun s X => VC26_l1 K ret18v s.1 s.2 X) ((0 : Int), ([] : List Int)))))))) (fun ret20v => [toV1 .bool ret20v]) (fun ret20v => (⟨45, [(6, [], .v (.c (.p (.sl (.int .i64)) ret18v))), (20, [], .v (.c (.p .bool ret20v)))], []⟩ : St)) (by kernel_rfl) rfl (by kernel_rfl) rfl (by kernel_rfl) Try.call48 (by kernel_rfl) (fun ret20v => by kernel_rfl) (fun e => by cases e) (fun hg => link48 ret18v 49 [] (fun (x : Int) (K : Bool → Prop) => VC49 x K) ⟨Try.call49, fun x K h => link49 x K h⟩ _ h) (fun hg => noF hg) (fun ret20v h => ?_)
    have h : ((ret20v = true → K (([] : (List Int)), (3 : Int))) ∧ (ret20v = false → (InR ((2 : Int) * (ret18v.length : Int)) ∧ InR (((2 : Int) * (ret18v.length : Int)) + (4 : Int)) ∧ (((decide ((4000 : Int) < (((2 : Int) * (ret18v.length : Int)) + (4 : Int)))) = true → K (([] : (List Int)), (1 : Int))) ∧ ((decide ((4000 : Int) < (((2 : Int) * (ret18v.length : Int)) + (4 : Int)))) = false → Loop (σ := Int × (List Int)) (fun s X => VC26_l1 K ret18v s.1 s.2 X) ((0 : Int), ([] : List Int))))))) := h
    refine awl_nil ?_
    refine thenQ_n ?_
    refine aw_cond (b := ret20v) (by kernel_rfl) (fun hb => ?_) (fun hb => ?_)
    · have h := h.1 hb
      refine aw_seq ?_
      refine aw_region ?_
      refine awl_runp 2 [2, 3] [] (ob := (True ∧ True ∧ True)) (st' := (⟨45, [(2, [], .v (.c (.nils))), (3, [], .v (.c (.p (.int .i64) (3 : Int))))], []⟩ : St)) (by kernel_rfl) ⟨trivial, trivial, trivial⟩ ?_
      refine awl_nil ?_
      refine thenQ_n ?_
      refine aw_ret ?_
      refine thenQ_r ?_
      exact retQ_r (σ := (List Int) × Int) (R := (fun y => [toV1 (.sl (.int .u8)) y.1, toV1 (.int .i64) y.2])) (ob := (True ∧ True ∧ True)) (([] : (List Int)), (3 : Int)) (by kernel_rfl) ⟨trivial, trivial, trivial⟩ h
    · have h := h.2 hb
      refine aw_skip ?_
      refine thenQ_n ?_
      refine aw_seq ?_
      refine aw_seq ?_
      refine aw_region ?_
      obtain ⟨o1, o2, h⟩ := h
      refine awl_runp 5 [6, 25] [] (ob := (True ∧ True ∧ InR ((2 : Int) * (ret18v.length : Int)) ∧ InR (((2 : Int) * (ret18v.length : Int)) + (4 : Int)) ∧ True ∧ True)) (st' := (⟨45, [(6, [], .v (.c (.p (.sl (.int .i64)) ret18v))), (25, [], .v (.c (.p .bool (decide ((4000 : Int) < (((2 : Int) * (ret18v.length : Int)) + (4 : Int)))))))], []⟩ : St)) (by kernel_rfl) ⟨trivial, trivial, o1, o2, trivial, trivial⟩ ?_
      refine awl_nil ?_
      refine thenQ_n ?_
      refine aw_cond (b := (decide ((4000 : Int) < (((2 : Int) * (ret18v.length : Int)) + (4 : Int))))) (by kernel_rfl) (fun hb => ?_) (fun hb => ?_)
      · have h := h.1 hb
        refine aw_seq ?_
        refine aw_region ?_
        refine awl_runp 2 [2, 3] [] (ob := (True ∧ True ∧ True)) (st' := (⟨45, [(2, [], .v (.c (.nils))), (3, [], .v (.c (.p (.int .i64) (1 : Int))))], []⟩ : St)) (by kernel_rfl) ⟨trivial, trivial, trivial⟩ ?_
        refine awl_nil ?_
        refine thenQ_n ?_
        refine aw_ret ?_
        refine thenQ_r ?_
        exact retQ_r (σ := (List Int) × Int) (R := (fun y => [toV1 (.sl (.int .u8)) y.1, toV1 (.int .i64) y.2])) (ob := (True ∧ True ∧ True)) (([] : (List Int)), (1 : Int)) (by kernel_rfl) ⟨trivial, trivial, trivial⟩ h
      · have h := h.2 hb
        refine aw_skip ?_
        refine thenQ_n ?_
        refine aw_seq ?_
        refine aw_region ?_
        refine awl_runp 1 [6, 7] [] (ob := (True ∧ True)) (st' := (⟨45, [(6, [], .v (.c (.p (.sl (.int .i64)) ret18v))), (7, [], .v (.c (.nils)))], []⟩ : St)) (by kernel_rfl) ⟨trivial, trivial⟩ ?_
        refine awl_nil ?_
        refine thenQ_n ?_
        refine aw_seq ?_
        refine aw_seq ?_
        refine aw_region ?_
        refine awl_runp 3 [7, 26, 27, 28] [] (ob := (True ∧ True ∧ True ∧ True)) (st' := (⟨45, [(7, [], .v (.c (.nils))), (26, [], .v (.c (.p (.sl (.int .i64)) ret18v))), (27, [], .v (.c (.p (.int .i64) (ret18v.length : Int)))), (28, [], .v (.c (.p (.int .i64) (0 : Int))))], []⟩ : St)) (by kernel_rfl) ⟨trivial, trivial, trivial, trivial⟩ ?_
        refine awl_nil ?_
        refine thenQ_n ?_
        refine withJoin (σ := (List Int)) (fun s => (⟨45, [(7, [], .v (.c (.own 5007)))], [(5007, [], .arr 5 (.int .u8) s)]⟩ : St)) (fun s => VC26_k1 K s) (fun out h => ?_) (fun rest1 => ?_)
        · have h : VC26_k1 K out := h
          unfold VC26_k1 at h
          refine thenQ_n ?_
          refine aw_seq ?_
          refine aw_region ?_
          refine awl_runp 2 [41, 42] [5007] (ob := (True ∧ True ∧ True)) (st' := (⟨45, [(41, [], .v (.c (.own 5007))), (42, [], .v (.c (.own 5007)))], [(5007, [], .arr 5 (.int .u8) out)]⟩ : St)) (by kernel_rfl) ⟨trivial, trivial, trivial⟩ ?_
          refine awl_callOk (e := 5) (t := (.int .u8)) (l := [toV1 (.sl (.int .u8)) out]) (cl := []) true [.d (.sl (.int .u8))] [41, 43] [43, 5007] (fun (ret43v : (List Int)) => (roomN (out.length + ret43v.length) ∧ K ((out ++ ret43v), (0 : Int)))) (fun ret43v => (⟨45, [(41, [], .v (.c (.own 5007))), (43, [], .v (.c (.own 43)))], [(43, [], .arr 5 (.int .u8) ret43v), (5007, [], .arr 5 (.int .u8) out)]⟩ : St)) rfl rfl (by kernel_rfl) rfl (by kernel_rfl) Try.call14 (by kernel_rfl) (fun _ => rfl) (fun ret43v => by kernel_rfl) (link14 out _ h) (fun ret43v h => ?_)
          have h : (roomN (out.length + ret43v.length) ∧ K ((out ++ ret43v), (0 : Int))) := h
          obtain ⟨o1, h⟩ := h
          refine awl_runp 3 [2, 3] [44] (ob := (roomN (out.length + ret43v.length) ∧ True ∧ True ∧ True)) (st' := (⟨45, [(2, [], .v (.c (.own 44))), (3, [], .v (.c (.p (.int .i64) (0 : Int))))], [(44, [], .arr 5 (.int .u8) (out ++ ret43v))]⟩ : St)) (by kernel_rfl) ⟨o1, trivial, trivial, trivial⟩ ?_
          refine awl_nil ?_
          refine thenQ_n ?_
          refine aw_conv [.freeze 44] (st' := (⟨45, [(2, [], .v (.c (.p (.sl (.int .u8)) (out ++ ret43v)))), (3, [], .v (.c (.p (.int .i64) (0 : Int))))], []⟩ : St)) (by kernel_rfl) ?_
          refine aw_ret ?_
          exact retQ_r (σ := (List Int) × Int) (R := (fun y => [toV1 (.sl (.int .u8)) y.1, toV1 (.int .i64) y.2])) (ob := (True ∧ True ∧ True)) ((out ++ ret43v), (0 : Int)) (by kernel_rfl) ⟨trivial, trivial, trivial⟩ h
        · refine aw_block ?_
          refine aw_conv [.nilOwn 7 5007 5 (.int .u8)] (st' := (⟨45, [(7, [], .v (.c (.own 5007))), (26, [], .v (.c (.p (.sl (.int .i64)) ret18v))), (27, [], .v (.c (.p (.int .i64) (ret18v.length : Int)))), (28, [], .v (.c (.p (.int .i64) (0 : Int))))], [(5007, [], .arr 5 (.int .u8) ([] : List Int))]⟩ : St)) (by kernel_rfl) ?_
          refine aw_loop (σ := Int × (List Int)) (fun s => (⟨45, [(7, [], .v (.c (.own 5007))), (26, [], .v (.c (.p (.sl (.int .i64)) ret18v))), (27, [], .v (.c (.p (.int .i64) (ret18v.length : Int)))), (28, [], .v (.c (.p (.int .i64) s.1)))], [(5007, [], .arr 5 (.int .u8) s.2)]⟩ : St)) (fun s X => VC26_l1 K ret18v s.1 s.2 X) (s0 := ((0 : Int), ([] : List Int))) (fun s X1 h => ?_) h
          obtain ⟨v28, out⟩ := s
          have h : VC26_l1 K ret18v v28 out X1 := h
          unfold VC26_l1 at h
          refine aw_seq ?_
          refine aw_region ?_
          refine awl_runp 1 [7, 26, 27, 28, 29] [5007] (ob := (True ∧ True)) (st' := (⟨45, [(7, [], .v (.c (.own 5007))), (26, [], .v (.c (.p (.sl (.int .i64)) ret18v))), (27, [], .v (.c (.p (.int .i64) (ret18v.length : Int)))), (28, [], .v (.c (.p (.int .i64) v28))), (29, [], .v (.c (.p .bool (decide (v28 < (ret18v.length : Int))))))], [(5007, [], .arr 5 (.int .u8) out)]⟩ : St)) (by kernel_rfl) ⟨trivial, trivial⟩ ?_
          refine awl_nil ?_
          refine thenQ_n ?_
          refine aw_seq ?_
          refine aw_cond (b := (decide (v28 < (ret18v.length : Int)))) (by kernel_rfl) (fun hb => ?_) (fun hb => ?_)
          · have h := h.1 hb
            refine aw_skip ?_
            refine thenQ_n ?_
            refine aw_seq ?_
            refine aw_block ?_
            refine aw_seq ?_
            refine aw_region ?_
            obtain ⟨o1, h⟩ := h
            refine awl_runp 3 [7, 9, 26, 27, 28] [5007] (ob := (inIdx v28 ret18v.length ∧ True ∧ True ∧ True)) (st' := (⟨45, [(7, [], .v (.c (.own 5007))), (9, [], .v (.c (.p (.int .i64) (ret18v.getD (v28).toNat (0 : Int))))), (26, [], .v (.c (.p (.sl (.int .i64)) ret18v))), (27, [], .v (.c (.p (.int .i64) (ret18v.length : Int)))), (28, [], .v (.c (.p (.int .i64) v28)))], [(5007, [], .arr 5 (.int .u8) out)]⟩ : St)) (by kernel_rfl) ⟨o1, trivial, trivial, trivial⟩ ?_
            refine awl_nil ?_
            refine thenQ_n ?_
            refine aw_region ?_
            obtain ⟨o1, o2, h⟩ := h
            refine awl_runp 9 [7, 26, 27, 28] [39] (ob := (True ∧ True ∧ True ∧ True ∧ (0 ≤ (ret18v.getD (v28).toNat (0 : Int)) ∧ 0 ≤ (8 : Int)) ∧ True ∧ True ∧ roomN (out.length + [(IntKind.wrap .u8 (ret18v.getD (v28).toNat (0 : Int))), (IntKind.wrap .u8 (bShr .i64 (ret18v.getD (v28).toNat (0 : Int)) (8 : Int)))].length) ∧ True ∧ True)) (st' := (⟨45, [(7, [], .v (.c (.own 39))), (26, [], .v (.c (.p (.sl (.int .i64)) ret18v))), (27, [], .v (.c (.p (.int .i64) (ret18v.length : Int)))), (28, [], .v (.c (.p (.int .i64) v28)))], [(39, [], .arr 5 (.int .u8) (out ++ [(IntKind.wrap .u8 (ret18v.getD (v28).toNat (0 : Int))), (IntKind.wrap .u8 (bShr .i64 (ret18v.getD (v28).toNat (0 : Int)) (8 : Int)))]))]⟩ : St)) (by kernel_rfl) ⟨trivial, trivial, trivial, trivial, o1, trivial, trivial, o2, trivial, trivial⟩ ?_
            refine awl_nil ?_
            refine blockQ_n ?_
            refine thenQ_n ?_
            refine aw_region ?_
            obtain ⟨o1, h⟩ := h
            refine awl_runp 2 [7, 26, 27, 28] [39] (ob := (InR (v28 + (1 : Int)) ∧ True ∧ True)) (st' := (⟨45, [(7, [], .v (.c (.own 39))), (26, [], .v (.c (.p (.sl (.int .i64)) ret18v))), (27, [], .v (.c (.p (.int .i64) (ret18v.length : Int)))), (28, [], .v (.c (.p (.int .i64) (v28 + (1 : Int)))))], [(39, [], .arr 5 (.int .u8) (out ++ [(IntKind.wrap .u8 (ret18v.getD (v28).toNat (0 : Int))), (IntKind.wrap .u8 (bShr .i64 (ret18v.getD (v28).toNat (0 : Int)) (8 : Int)))]))]⟩ : St)) (by kernel_rfl) ⟨o1, trivial, trivial⟩ ?_
            refine awl_conv [.ren 39 20039, .ren 20039 5007] (st' := (⟨45, [(7, [], .v (.c (.own 5007))), (26, [], .v (.c (.p (.sl (.int .i64)) ret18v))), (27, [], .v (.c (.p (.int .i64) (ret18v.length : Int)))), (28, [], .v (.c (.p (.int .i64) (v28 + (1 : Int)))))], [(5007, [], .arr 5 (.int .u8) (out ++ [(IntKind.wrap .u8 (ret18v.getD (v28).toNat (0 : Int))), (IntKind.wrap .u8 (bShr .i64 (ret18v.getD (v28).toNat (0 : Int)) (8 : Int)))]))]⟩ : St)) (by kernel_rfl) ?_
            refine awl_nil ?_
            exact thenQ_n ⟨((v28 + (1 : Int)), (out ++ [(IntKind.wrap .u8 (ret18v.getD (v28).toNat (0 : Int))), (IntKind.wrap .u8 (bShr .i64 (ret18v.getD (v28).toNat (0 : Int)) (8 : Int)))])), rfl, h⟩
          · have h := h.2 hb
            refine aw_conv [.prune [7] [5007]] (st' := (⟨45, [(7, [], .v (.c (.own 5007)))], [(5007, [], .arr 5 (.int .u8) out)]⟩ : St)) (by kernel_rfl) ?_
            refine aw_exit ?_
            refine thenQ_x ?_
            refine thenQ_x ?_
            refine blockQ_hit ?_
            exact rest1 out h

end Dec
