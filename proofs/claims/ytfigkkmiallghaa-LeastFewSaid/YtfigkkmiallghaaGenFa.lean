/-
  Printed by dec2.py: of each function its plain demand, and that the demand gives the contract.
-/
import Derived.Test.YtfigkkmiallghaaGenPb
import Derived.Test.YtfigkkmiallghaaGenQa
set_option linter.unusedVariables false
set_option linter.unusedSimpArgs false
set_option maxRecDepth 100000
namespace Dec
open Go Go.RowKit Go.Proofs

-- coppicer/coppicerref.Ints
def VC68_k1 (K : Bool → Prop) : Prop :=
  K true

def VC68_l1 (a : (List Int)) (b : (List Int)) (K : Bool → Prop) (i : Int) (X1 : Int → Prop) : Prop :=
  (((decide (i < (a.length : Int))) = true → (inIdx i a.length ∧ inIdx i b.length ∧ (((!decide ((a.getD (i).toNat (0 : Int)) = (b.getD (i).toNat (0 : Int)))) = true → K false) ∧ ((!decide ((a.getD (i).toNat (0 : Int)) = (b.getD (i).toNat (0 : Int)))) = false → (InR (i + (1 : Int)) ∧ X1 (i + (1 : Int))))))) ∧ ((decide (i < (a.length : Int))) = false → VC68_k1 K))

def VC68 (a : (List Int)) (b : (List Int)) (K : Bool → Prop) : Prop :=
  (((!decide ((a.length : Int) = (b.length : Int))) = true → K false) ∧ ((!decide ((a.length : Int) = (b.length : Int))) = false → Loop (σ := Int) (fun s X => VC68_l1 a b K s X) (0 : Int)))

set_option maxHeartbeats 4000000 in
theorem link68 (a : (List Int)) (b : (List Int)) (K : Bool → Prop) (h : VC68 a b K) : ACalls Try.prog 68 [toV1 (.sl (.int .i64)) a, toV1 (.sl (.int .i64)) b] (fun res => ∃ y, res = (fun y => [toV1 .bool y]) y ∧ K y) := by
  refine acalls_of_aw [.bool] [.t 4] Try.func68 rfl rfl rfl ?_
  unfold VC68 at h
  refine aw_seq ?_
  refine aw_region ?_
  refine awl_runp 1 [0, 1] [] (ob := (True ∧ True)) (st' := (⟨26, [(0, [], .v (.c (.p (.sl (.int .i64)) a))), (1, [], .v (.c (.p (.sl (.int .i64)) b)))], []⟩ : St)) (by kernel_rfl) ⟨trivial, trivial⟩ ?_
  refine awl_nil ?_
  refine thenQ_n ?_
  refine aw_seq ?_
  refine aw_seq ?_
  refine aw_region ?_
  refine awl_runp 5 [0, 1, 10] [] (ob := (True ∧ True ∧ True ∧ True ∧ True ∧ True)) (st' := (⟨26, [(0, [], .v (.c (.p (.sl (.int .i64)) a))), (1, [], .v (.c (.p (.sl (.int .i64)) b))), (10, [], .v (.c (.p .bool (!decide ((a.length : Int) = (b.length : Int))))))], []⟩ : St)) (by kernel_rfl) ⟨trivial, trivial, trivial, trivial, trivial, trivial⟩ ?_
  refine awl_nil ?_
  refine thenQ_n ?_
  refine aw_cond (b := (!decide ((a.length : Int) = (b.length : Int)))) (by kernel_rfl) (fun hb => ?_) (fun hb => ?_)
  · have h := h.1 hb
    refine aw_seq ?_
    refine aw_region ?_
    refine awl_runp 1 [4] [] (ob := (True ∧ True)) (st' := (⟨26, [(4, [], .v (.c (.p .bool false)))], []⟩ : St)) (by kernel_rfl) ⟨trivial, trivial⟩ ?_
    refine awl_nil ?_
    refine thenQ_n ?_
    refine aw_ret ?_
    refine thenQ_r ?_
    exact retQ_r (σ := Bool) (R := (fun y => [toV1 .bool y])) (ob := (True ∧ True)) false (by kernel_rfl) ⟨trivial, trivial⟩ h
  · have h := h.2 hb
    refine aw_skip ?_
    refine thenQ_n ?_
    refine aw_seq ?_
    refine aw_seq ?_
    refine aw_region ?_
    refine awl_runp 1 [0, 1, 5] [] (ob := (True ∧ True)) (st' := (⟨26, [(0, [], .v (.c (.p (.sl (.int .i64)) a))), (1, [], .v (.c (.p (.sl (.int .i64)) b))), (5, [], .v (.c (.p (.int .i64) (0 : Int))))], []⟩ : St)) (by kernel_rfl) ⟨trivial, trivial⟩ ?_
    refine awl_nil ?_
    refine thenQ_n ?_
    refine withJoin (σ := Unit) (fun s => (⟨26, [], []⟩ : St)) (fun s => VC68_k1 K) (fun s h => ?_) (fun rest1 => ?_)
    · have h : VC68_k1 K := h
      unfold VC68_k1 at h
      refine thenQ_n ?_
      refine aw_seq ?_
      refine aw_region ?_
      refine awl_runp 1 [4] [] (ob := (True ∧ True)) (st' := (⟨26, [(4, [], .v (.c (.p .bool true)))], []⟩ : St)) (by kernel_rfl) ⟨trivial, trivial⟩ ?_
      refine awl_nil ?_
      refine thenQ_n ?_
      refine aw_ret ?_
      exact retQ_r (σ := Bool) (R := (fun y => [toV1 .bool y])) (ob := (True ∧ True)) true (by kernel_rfl) ⟨trivial, trivial⟩ h
    · refine aw_block ?_
      refine aw_loop (σ := Int) (fun s => (⟨26, [(0, [], .v (.c (.p (.sl (.int .i64)) a))), (1, [], .v (.c (.p (.sl (.int .i64)) b))), (5, [], .v (.c (.p (.int .i64) s)))], []⟩ : St)) (fun s X => VC68_l1 a b K s X) (s0 := (0 : Int)) (fun i X1 h => ?_) h
      have h : VC68_l1 a b K i X1 := h
      unfold VC68_l1 at h
      refine aw_seq ?_
      refine aw_seq ?_
      refine aw_region ?_
      refine awl_runp 4 [0, 1, 5, 14] [] (ob := (True ∧ True ∧ True ∧ True ∧ True)) (st' := (⟨26, [(0, [], .v (.c (.p (.sl (.int .i64)) a))), (1, [], .v (.c (.p (.sl (.int .i64)) b))), (5, [], .v (.c (.p (.int .i64) i))), (14, [], .v (.c (.p .bool (decide (i < (a.length : Int))))))], []⟩ : St)) (by kernel_rfl) ⟨trivial, trivial, trivial, trivial, trivial⟩ ?_
      refine awl_nil ?_
      refine thenQ_n ?_
      refine aw_cond (b := (decide (i < (a.length : Int)))) (by kernel_rfl) (fun hb => ?_) (fun hb => ?_)
      · have h := h.1 hb
        refine aw_skip ?_
        refine thenQ_n ?_
        refine aw_seq ?_
        refine aw_block ?_
        refine aw_seq ?_
        refine awd_begin [] (by kernel_rfl) ?_
        obtain ⟨o1, o2, h⟩ := h
        refine awd_runp (by kernel_rfl) [0, 1, 2, 3, 4, 5, 6, 7, 8] [0, 1, 5, 25] [] (ob := (True ∧ True ∧ inIdx i a.length ∧ True ∧ True ∧ True ∧ inIdx i b.length ∧ True ∧ True ∧ True)) (done' := [8, 7, 6, 5, 4, 3, 2, 1, 0]) (st' := (⟨26, [(0, [], .v (.c (.p (.sl (.int .i64)) a))), (1, [], .v (.c (.p (.sl (.int .i64)) b))), (5, [], .v (.c (.p (.int .i64) i))), (25, [], .v (.c (.p .bool (!decide ((a.getD (i).toNat (0 : Int)) = (b.getD (i).toNat (0 : Int)))))))], []⟩ : St)) (by kernel_rfl) ⟨trivial, trivial, o1, trivial, trivial, trivial, o2, trivial, trivial, trivial⟩ ?_
        refine awd_done (by kernel_rfl) ?_
        refine thenQ_n ?_
        refine aw_cond (b := (!decide ((a.getD (i).toNat (0 : Int)) = (b.getD (i).toNat (0 : Int))))) (by kernel_rfl) (fun hb => ?_) (fun hb => ?_)
        · have h := h.1 hb
          refine aw_seq ?_
          refine aw_region ?_
          refine awl_runp 1 [4] [] (ob := (True ∧ True)) (st' := (⟨26, [(4, [], .v (.c (.p .bool false)))], []⟩ : St)) (by kernel_rfl) ⟨trivial, trivial⟩ ?_
          refine awl_nil ?_
          refine thenQ_n ?_
          refine aw_ret ?_
          refine blockQ_r ?_
          refine thenQ_r ?_
          refine thenQ_r ?_
          refine blockQ_r ?_
          refine thenQ_r ?_
          exact retQ_r (σ := Bool) (R := (fun y => [toV1 .bool y])) (ob := (True ∧ True)) false (by kernel_rfl) ⟨trivial, trivial⟩ h
        · have h := h.2 hb
          refine aw_skip ?_
          refine blockQ_n ?_
          refine thenQ_n ?_
          refine aw_region ?_
          obtain ⟨o1, h⟩ := h
          refine awl_runp 3 [0, 1, 5] [] (ob := (True ∧ InR (i + (1 : Int)) ∧ True ∧ True)) (st' := (⟨26, [(0, [], .v (.c (.p (.sl (.int .i64)) a))), (1, [], .v (.c (.p (.sl (.int .i64)) b))), (5, [], .v (.c (.p (.int .i64) (i + (1 : Int)))))], []⟩ : St)) (by kernel_rfl) ⟨trivial, o1, trivial, trivial⟩ ?_
          refine awl_nil ?_
          exact thenQ_n ⟨(i + (1 : Int)), rfl, h⟩
      · have h := h.2 hb
        refine aw_conv [.prune [] []] (st' := (⟨26, [], []⟩ : St)) (by kernel_rfl) ?_
        refine aw_exit ?_
        refine thenQ_x ?_
        refine thenQ_x ?_
        refine blockQ_hit ?_
        exact rest1 () h

-- coppicer/coppicerref.Lists
def VC52_k1 (K : Bool → Prop) : Prop :=
  K true

def VC52_l1 (a : (List (List Int))) (b : (List (List Int))) (K : Bool → Prop) (i : Int) (X1 : Int → Prop) : Prop :=
  (((decide (i < (a.length : Int))) = true → (inIdx i a.length ∧ inIdx i b.length ∧ VC68 (a.getD (i).toNat ([] : (List Int))) (b.getD (i).toNat ([] : (List Int))) (fun (ret25v : Bool) => (((!ret25v) = true → K false) ∧ ((!ret25v) = false → (InR (i + (1 : Int)) ∧ X1 (i + (1 : Int)))))))) ∧ ((decide (i < (a.length : Int))) = false → VC52_k1 K))

def VC52 (a : (List (List Int))) (b : (List (List Int))) (K : Bool → Prop) : Prop :=
  (((!decide ((a.length : Int) = (b.length : Int))) = true → K false) ∧ ((!decide ((a.length : Int) = (b.length : Int))) = false → Loop (σ := Int) (fun s X => VC52_l1 a b K s X) (0 : Int)))

set_option maxHeartbeats 4000000 in
theorem link52 (a : (List (List Int))) (b : (List (List Int))) (K : Bool → Prop) (h : VC52 a b K) : ACalls Try.prog 52 [toV1 (.sl (.sl (.int .i64))) a, toV1 (.sl (.sl (.int .i64))) b] (fun res => ∃ y, res = (fun y => [toV1 .bool y]) y ∧ K y) := by
  refine acalls_of_aw [.bool] [.t 4] Try.func52 rfl rfl rfl ?_
  unfold VC52 at h
  refine aw_seq ?_
  refine aw_region ?_
  refine awl_runp 1 [0, 1] [] (ob := (True ∧ True)) (st' := (⟨27, [(0, [], .v (.c (.p (.sl (.sl (.int .i64))) a))), (1, [], .v (.c (.p (.sl (.sl (.int .i64))) b)))], []⟩ : St)) (by kernel_rfl) ⟨trivial, trivial⟩ ?_
  refine awl_nil ?_
  refine thenQ_n ?_
  refine aw_seq ?_
  refine aw_seq ?_
  refine aw_region ?_
  refine awl_runp 5 [0, 1, 10] [] (ob := (True ∧ True ∧ True ∧ True ∧ True ∧ True)) (st' := (⟨27, [(0, [], .v (.c (.p (.sl (.sl (.int .i64))) a))), (1, [], .v (.c (.p (.sl (.sl (.int .i64))) b))), (10, [], .v (.c (.p .bool (!decide ((a.length : Int) = (b.length : Int))))))], []⟩ : St)) (by kernel_rfl) ⟨trivial, trivial, trivial, trivial, trivial, trivial⟩ ?_
  refine awl_nil ?_
  refine thenQ_n ?_
  refine aw_cond (b := (!decide ((a.length : Int) = (b.length : Int)))) (by kernel_rfl) (fun hb => ?_) (fun hb => ?_)
  · have h := h.1 hb
    refine aw_seq ?_
    refine aw_region ?_
    refine awl_runp 1 [4] [] (ob := (True ∧ True)) (st' := (⟨27, [(4, [], .v (.c (.p .bool false)))], []⟩ : St)) (by kernel_rfl) ⟨trivial, trivial⟩ ?_
    refine awl_nil ?_
    refine thenQ_n ?_
    refine aw_ret ?_
    refine thenQ_r ?_
    exact retQ_r (σ := Bool) (R := (fun y => [toV1 .bool y])) (ob := (True ∧ True)) false (by kernel_rfl) ⟨trivial, trivial⟩ h
  · have h := h.2 hb
    refine aw_skip ?_
    refine thenQ_n ?_
    refine aw_seq ?_
    refine aw_seq ?_
    refine aw_region ?_
    refine awl_runp 1 [0, 1, 5] [] (ob := (True ∧ True)) (st' := (⟨27, [(0, [], .v (.c (.p (.sl (.sl (.int .i64))) a))), (1, [], .v (.c (.p (.sl (.sl (.int .i64))) b))), (5, [], .v (.c (.p (.int .i64) (0 : Int))))], []⟩ : St)) (by kernel_rfl) ⟨trivial, trivial⟩ ?_
    refine awl_nil ?_
    refine thenQ_n ?_
    refine withJoin (σ := Unit) (fun s => (⟨27, [], []⟩ : St)) (fun s => VC52_k1 K) (fun s h => ?_) (fun rest1 => ?_)
    · have h : VC52_k1 K := h
      unfold VC52_k1 at h
      refine thenQ_n ?_
      refine aw_seq ?_
      refine aw_region ?_
      refine awl_runp 1 [4] [] (ob := (True ∧ True)) (st' := (⟨27, [(4, [], .v (.c (.p .bool true)))], []⟩ : St)) (by kernel_rfl) ⟨trivial, trivial⟩ ?_
      refine awl_nil ?_
      refine thenQ_n ?_
      refine aw_ret ?_
      exact retQ_r (σ := Bool) (R := (fun y => [toV1 .bool y])) (ob := (True ∧ True)) true (by kernel_rfl) ⟨trivial, trivial⟩ h
    · refine aw_block ?_
      refine aw_loop (σ := Int) (fun s => (⟨27, [(0, [], .v (.c (.p (.sl (.sl (.int .i64))) a))), (1, [], .v (.c (.p (.sl (.sl (.int .i64))) b))), (5, [], .v (.c (.p (.int .i64) s)))], []⟩ : St)) (fun s X => VC52_l1 a b K s X) (s0 := (0 : Int)) (fun i X1 h => ?_) h
      have h : VC52_l1 a b K i X1 := h
      unfold VC52_l1 at h
      refine aw_seq ?_
      refine aw_seq ?_
      refine aw_region ?_
      refine awl_runp 4 [0, 1, 5, 14] [] (ob := (True ∧ True ∧ True ∧ True ∧ True)) (st' := (⟨27, [(0, [], .v (.c (.p (.sl (.sl (.int .i64))) a))), (1, [], .v (.c (.p (.sl (.sl (.int .i64))) b))), (5, [], .v (.c (.p (.int .i64) i))), (14, [], .v (.c (.p .bool (decide (i < (a.length : Int))))))], []⟩ : St)) (by kernel_rfl) ⟨trivial, trivial, trivial, trivial, trivial⟩ ?_
      refine awl_nil ?_
      refine thenQ_n ?_
      refine aw_cond (b := (decide (i < (a.length : Int)))) (by kernel_rfl) (fun hb => ?_) (fun hb => ?_)
      · have h := h.1 hb
        refine aw_skip ?_
        refine thenQ_n ?_
        refine aw_seq ?_
        refine aw_block ?_
        refine aw_seq ?_
        refine awd_begin [] (by kernel_rfl) ?_
        obtain ⟨o1, o2, h⟩ := h
        refine awd_runp (by kernel_rfl) [0, 1, 2, 3, 4, 5, 6, 7] [0, 1, 5, 20, 24] [] (ob := (True ∧ True ∧ inIdx i a.length ∧ True ∧ True ∧ True ∧ inIdx i b.length ∧ True ∧ True)) (done' := [7, 6, 5, 4, 3, 2, 1, 0]) (st' := (⟨27, [(0, [], .v (.c (.p (.sl (.sl (.int .i64))) a))), (1, [], .v (.c (.p (.sl (.sl (.int .i64))) b))), (5, [], .v (.c (.p (.int .i64) i))), (20, [], .v (.c (.p (.sl (.int .i64)) (a.getD (i).toNat ([] : (List Int)))))), (24, [], .v (.c (.p (.sl (.int .i64)) (b.getD (i).toNat ([] : (List Int))))))], []⟩ : St)) (by kernel_rfl) ⟨trivial, trivial, o1, trivial, trivial, trivial, o2, trivial, trivial⟩ ?_
        refine awd_one (i := 8) (by kernel_rfl) ?_
        refine adop_callk (p := []) (l := [toV1 (.sl (.int .i64)) (a.getD (i).toNat ([] : (List Int))), toV1 (.sl (.int .i64)) (b.getD (i).toNat ([] : (List Int)))]) (cl := []) false [.d (.sl (.int .i64)), .d (.sl (.int .i64))] [0, 1, 5, 25] [] (fun (ret25v : Bool) => (((!ret25v) = true → K false) ∧ ((!ret25v) = false → (InR (i + (1 : Int)) ∧ X1 (i + (1 : Int)))))) (fun ret25v => [toV1 .bool ret25v]) (fun ret25v => (⟨27, [(0, [], .v (.c (.p (.sl (.sl (.int .i64))) a))), (1, [], .v (.c (.p (.sl (.sl (.int .i64))) b))), (5, [], .v (.c (.p (.int .i64) i))), (25, [], .v (.c (.p .bool ret25v)))], []⟩ : St)) rfl (by kernel_rfl) rfl (by kernel_rfl) rfl (by kernel_rfl) Try.call68 (by kernel_rfl) (fun ret25v => by kernel_rfl) (fun e => by cases e) (fun hg => link68 (a.getD (i).toNat ([] : (List Int))) (b.getD (i).toNat ([] : (List Int))) _ h) (fun hg => noF hg) (fun ret25v h => ?_)
        have h : (((!ret25v) = true → K false) ∧ ((!ret25v) = false → (InR (i + (1 : Int)) ∧ X1 (i + (1 : Int))))) := h
        refine awd_runp (by kernel_rfl) [9] [0, 1, 5, 26] [] (ob := (True ∧ True)) (done' := [9, 8, 7, 6, 5, 4, 3, 2, 1, 0]) (st' := (⟨27, [(0, [], .v (.c (.p (.sl (.sl (.int .i64))) a))), (1, [], .v (.c (.p (.sl (.sl (.int .i64))) b))), (5, [], .v (.c (.p (.int .i64) i))), (26, [], .v (.c (.p .bool (!ret25v))))], []⟩ : St)) (by kernel_rfl) ⟨trivial, trivial⟩ ?_
        refine awd_done (by kernel_rfl) ?_
        refine thenQ_n ?_
        refine aw_cond (b := (!ret25v)) (by kernel_rfl) (fun hb => ?_) (fun hb => ?_)
        · have h := h.1 hb
          refine aw_seq ?_
          refine aw_region ?_
          refine awl_runp 1 [4] [] (ob := (True ∧ True)) (st' := (⟨27, [(4, [], .v (.c (.p .bool false)))], []⟩ : St)) (by kernel_rfl) ⟨trivial, trivial⟩ ?_
          refine awl_nil ?_
          refine thenQ_n ?_
          refine aw_ret ?_
          refine blockQ_r ?_
          refine thenQ_r ?_
          refine thenQ_r ?_
          refine blockQ_r ?_
          refine thenQ_r ?_
          exact retQ_r (σ := Bool) (R := (fun y => [toV1 .bool y])) (ob := (True ∧ True)) false (by kernel_rfl) ⟨trivial, trivial⟩ h
        · have h := h.2 hb
          refine aw_skip ?_
          refine blockQ_n ?_
          refine thenQ_n ?_
          refine aw_region ?_
          obtain ⟨o1, h⟩ := h
          refine awl_runp 3 [0, 1, 5] [] (ob := (True ∧ InR (i + (1 : Int)) ∧ True ∧ True)) (st' := (⟨27, [(0, [], .v (.c (.p (.sl (.sl (.int .i64))) a))), (1, [], .v (.c (.p (.sl (.sl (.int .i64))) b))), (5, [], .v (.c (.p (.int .i64) (i + (1 : Int)))))], []⟩ : St)) (by kernel_rfl) ⟨trivial, o1, trivial, trivial⟩ ?_
          refine awl_nil ?_
          exact thenQ_n ⟨(i + (1 : Int)), rfl, h⟩
      · have h := h.2 hb
        refine aw_conv [.prune [] []] (st' := (⟨27, [], []⟩ : St)) (by kernel_rfl) ?_
        refine aw_exit ?_
        refine thenQ_x ?_
        refine thenQ_x ?_
        refine blockQ_hit ?_
        exact rest1 () h

-- coppicer/coppicerref.MachineSame
def VC28 (a : (Int × (Int × ((List (List Int)) × (Int × Int))))) (b : (Int × (Int × ((List (List Int)) × (Int × Int))))) (K : Bool → Prop) : Prop :=
  gcall (α := Bool) ((((decide (a.1 = b.1)) && (decide (a.2.1 = b.2.1))) && (decide (a.2.2.2.1 = b.2.2.2.1))) && (decide (a.2.2.2.2 = b.2.2.2.2))) (VC52 a.2.2.1 b.2.2.1) false (fun (ret36v : Bool) => K (((((decide (a.1 = b.1)) && (decide (a.2.1 = b.2.1))) && (decide (a.2.2.2.1 = b.2.2.2.1))) && (decide (a.2.2.2.2 = b.2.2.2.2))) && ret36v))

set_option maxHeartbeats 4000000 in
theorem link28 (a : (Int × (Int × ((List (List Int)) × (Int × Int))))) (b : (Int × (Int × ((List (List Int)) × (Int × Int))))) (K : Bool → Prop) (h : VC28 a b K) : ACalls Try.prog 28 [toV1 (.pr (.int .i64) (.pr (.int .i64) (.pr (.sl (.sl (.int .i64))) (.pr (.int .i64) (.int .u32))))) a, toV1 (.pr (.int .i64) (.pr (.int .i64) (.pr (.sl (.sl (.int .i64))) (.pr (.int .i64) (.int .u32))))) b] (fun res => ∃ y, res = (fun y => [toV1 .bool y]) y ∧ K y) := by
  refine acalls_of_aw [.bool] [.t 4] Try.func28 rfl rfl rfl ?_
  unfold VC28 at h
  refine aw_seq ?_
  refine aw_region ?_
  refine awl_runp 3 [2, 3] [2, 3] (ob := (True ∧ True ∧ True ∧ True)) (st' := (⟨38, [(2, [], .v (.c (.ptr 2 0))), (3, [], .v (.c (.ptr 3 0)))], [(2, [], .box [.p (.int .i64) a.1, .p (.int .i64) a.2.1, .p (.sl (.sl (.int .i64))) a.2.2.1, .p (.int .i64) a.2.2.2.1, .p (.int .u32) a.2.2.2.2]), (3, [], .box [.p (.int .i64) b.1, .p (.int .i64) b.2.1, .p (.sl (.sl (.int .i64))) b.2.2.1, .p (.int .i64) b.2.2.2.1, .p (.int .u32) b.2.2.2.2])]⟩ : St)) (by kernel_rfl) ⟨trivial, trivial, trivial, trivial⟩ ?_
  refine awl_nil ?_
  refine thenQ_n ?_
  refine aw_seq ?_
  refine aw_region ?_
  refine awl_runp 31 [31, 33, 35] [] (ob := (True ∧ True ∧ True ∧ True ∧ True ∧ True ∧ ((decide (a.1 = b.1)) = true → True) ∧ ((decide (a.1 = b.1)) = true → True) ∧ ((decide (a.1 = b.1)) = true → True) ∧ ((decide (a.1 = b.1)) = true → True) ∧ ((decide (a.1 = b.1)) = true → True) ∧ True ∧ True ∧ (((decide (a.1 = b.1)) && (decide (a.2.1 = b.2.1))) = true → True) ∧ (((decide (a.1 = b.1)) && (decide (a.2.1 = b.2.1))) = true → True) ∧ (((decide (a.1 = b.1)) && (decide (a.2.1 = b.2.1))) = true → True) ∧ (((decide (a.1 = b.1)) && (decide (a.2.1 = b.2.1))) = true → True) ∧ (((decide (a.1 = b.1)) && (decide (a.2.1 = b.2.1))) = true → True) ∧ True ∧ True ∧ ((((decide (a.1 = b.1)) && (decide (a.2.1 = b.2.1))) && (decide (a.2.2.2.1 = b.2.2.2.1))) = true → True) ∧ ((((decide (a.1 = b.1)) && (decide (a.2.1 = b.2.1))) && (decide (a.2.2.2.1 = b.2.2.2.1))) = true → True) ∧ ((((decide (a.1 = b.1)) && (decide (a.2.1 = b.2.1))) && (decide (a.2.2.2.1 = b.2.2.2.1))) = true → True) ∧ ((((decide (a.1 = b.1)) && (decide (a.2.1 = b.2.1))) && (decide (a.2.2.2.1 = b.2.2.2.1))) = true → True) ∧ ((((decide (a.1 = b.1)) && (decide (a.2.1 = b.2.1))) && (decide (a.2.2.2.1 = b.2.2.2.1))) = true → True) ∧ True ∧ True ∧ (((((decide (a.1 = b.1)) && (decide (a.2.1 = b.2.1))) && (decide (a.2.2.2.1 = b.2.2.2.1))) && (decide (a.2.2.2.2 = b.2.2.2.2))) = true → True) ∧ (((((decide (a.1 = b.1)) && (decide (a.2.1 = b.2.1))) && (decide (a.2.2.2.1 = b.2.2.2.1))) && (decide (a.2.2.2.2 = b.2.2.2.2))) = true → True) ∧ (((((decide (a.1 = b.1)) && (decide (a.2.1 = b.2.1))) && (decide (a.2.2.2.1 = b.2.2.2.1))) && (decide (a.2.2.2.2 = b.2.2.2.2))) = true → True) ∧ (((((decide (a.1 = b.1)) && (decide (a.2.1 = b.2.1))) && (decide (a.2.2.2.1 = b.2.2.2.1))) && (decide (a.2.2.2.2 = b.2.2.2.2))) = true → True) ∧ True)) (st' := (⟨38, [(31, [], .v (.c (.p .bool ((((decide (a.1 = b.1)) && (decide (a.2.1 = b.2.1))) && (decide (a.2.2.2.1 = b.2.2.2.1))) && (decide (a.2.2.2.2 = b.2.2.2.2)))))), (33, [(31, true)], .v (.c (.p (.sl (.sl (.int .i64))) a.2.2.1))), (35, [(31, true)], .v (.c (.p (.sl (.sl (.int .i64))) b.2.2.1)))], []⟩ : St)) (by kernel_rfl) ⟨trivial, trivial, trivial, trivial, trivial, trivial, (fun _ => trivial), (fun _ => trivial), (fun _ => trivial), (fun _ => trivial), (fun _ => trivial), trivial, trivial, (fun _ => trivial), (fun _ => trivial), (fun _ => trivial), (fun _ => trivial), (fun _ => trivial), trivial, trivial, (fun _ => trivial), (fun _ => trivial), (fun _ => trivial), (fun _ => trivial), (fun _ => trivial), trivial, trivial, (fun _ => trivial), (fun _ => trivial), (fun _ => trivial), (fun _ => trivial), trivial⟩ ?_
  refine awl_callk (p := [(31, true)]) (l := [toV1 (.sl (.sl (.int .i64))) a.2.2.1, toV1 (.sl (.sl (.int .i64))) b.2.2.1]) (cl := []) false [.d (.sl (.sl (.int .i64))), .d (.sl (.sl (.int .i64)))] [31, 36] [] (fun (ret36v : Bool) => K (((((decide (a.1 = b.1)) && (decide (a.2.1 = b.2.1))) && (decide (a.2.2.2.1 = b.2.2.2.1))) && (decide (a.2.2.2.2 = b.2.2.2.2))) && ret36v)) (fun ret36v => [toV1 .bool ret36v]) (fun ret36v => (⟨38, [(31, [], .v (.c (.p .bool ((((decide (a.1 = b.1)) && (decide (a.2.1 = b.2.1))) && (decide (a.2.2.2.1 = b.2.2.2.1))) && (decide (a.2.2.2.2 = b.2.2.2.2)))))), (36, [(31, true)], .v (.c (.p .bool ret36v)))], []⟩ : St)) (by kernel_rfl) rfl (by kernel_rfl) rfl (by kernel_rfl) Try.call52 (by kernel_rfl) (fun ret36v => by kernel_rfl) (fun e => by cases e) (fun hg => link52 a.2.2.1 b.2.2.1 _ (by have := gcall_T h (show ((((decide (a.1 = b.1)) && (decide (a.2.1 = b.2.1))) && (decide (a.2.2.2.1 = b.2.2.2.1))) && (decide (a.2.2.2.2 = b.2.2.2.2))) = true from hg); exact this)) (fun hg => ⟨false, by have := gcall_F h (show ((((decide (a.1 = b.1)) && (decide (a.2.1 = b.2.1))) && (decide (a.2.2.2.1 = b.2.2.2.1))) && (decide (a.2.2.2.2 = b.2.2.2.2))) = false from hg); exact this⟩) (fun ret36v h => ?_)
  have h : K (((((decide (a.1 = b.1)) && (decide (a.2.1 = b.2.1))) && (decide (a.2.2.2.1 = b.2.2.2.1))) && (decide (a.2.2.2.2 = b.2.2.2.2))) && ret36v) := h
  refine awl_runp 2 [4] [] (ob := (True ∧ True ∧ True)) (st' := (⟨38, [(4, [], .v (.c (.p .bool (((((decide (a.1 = b.1)) && (decide (a.2.1 = b.2.1))) && (decide (a.2.2.2.1 = b.2.2.2.1))) && (decide (a.2.2.2.2 = b.2.2.2.2))) && ret36v))))], []⟩ : St)) (by kernel_rfl) ⟨trivial, trivial, trivial⟩ ?_
  refine awl_nil ?_
  refine thenQ_n ?_
  refine aw_ret ?_
  exact retQ_r (σ := Bool) (R := (fun y => [toV1 .bool y])) (ob := (True ∧ True)) (((((decide (a.1 = b.1)) && (decide (a.2.1 = b.2.1))) && (decide (a.2.2.2.1 = b.2.2.2.1))) && (decide (a.2.2.2.2 = b.2.2.2.2))) && ret36v) (by kernel_rfl) ⟨trivial, trivial⟩ h

-- coppicer/coppicerkeep.LeastFew
def VC8_k1 (a : (Int × (Int × ((List (List Int)) × (Int × Int))))) (b : (Int × (Int × ((List (List Int)) × (Int × Int))))) (K : Bool → Prop) (ret21v : (Int × (Int × ((List (List Int)) × (Int × Int)))) × Int) (ret26v : (Int × (Int × ((List (List Int)) × (Int × Int)))) × Int) : Prop :=
  VC27 a b (fun (ret99v : Bool × Int) => (((!decide (a.2.1 = b.2.1)) = true → K (!decide (ret99v.2 = (0 : Int)))) ∧ ((!decide (a.2.1 = b.2.1)) = false → gcall (α := Bool) (decide (ret99v.2 = (0 : Int))) (VC28 ret21v.1 ret26v.1) false (fun (ret115v : Bool) => K ((decide (ret99v.2 = (0 : Int))) && (ret99v.1 == ret115v))))))

def VC8 (a : (Int × (Int × ((List (List Int)) × (Int × Int))))) (b : (Int × (Int × ((List (List Int)) × (Int × Int))))) (w : (List Int)) (K : Bool → Prop) : Prop :=
  VC25 a (fun (ret21v : (Int × (Int × ((List (List Int)) × (Int × Int)))) × Int) => VC25 b (fun (ret26v : (Int × (Int × ((List (List Int)) × (Int × Int)))) × Int) => VC26 a (fun (ret30v : Int) => gcall (α := Int) (!(!decide (ret30v = (0 : Int)))) (VC26 b) (0 : Int) (fun (ret34v : Int) => ((((!decide (ret30v = (0 : Int))) || (!decide (ret34v = (0 : Int)))) = true → K ((!decide (ret21v.2 = (0 : Int))) || (!decide (ret26v.2 = (0 : Int))))) ∧ (((!decide (ret30v = (0 : Int))) || (!decide (ret34v = (0 : Int)))) = false → (((((((!decide (ret21v.2 = (0 : Int))) || (!decide (ret26v.2 = (0 : Int)))) || (decide (ret21v.1.1 < (1 : Int)))) || (decide (a.1 < ret21v.1.1))) || (decide (b.1 < ret26v.1.1))) = true → K false) ∧ ((((((!decide (ret21v.2 = (0 : Int))) || (!decide (ret26v.2 = (0 : Int)))) || (decide (ret21v.1.1 < (1 : Int)))) || (decide (a.1 < ret21v.1.1))) || (decide (b.1 < ret26v.1.1))) = false → VC16 a w (fun (ret70v : Bool) => ((ret70v = true → VC15 a w (fun (ret74v : Int × Bool × Int) => VC15 ret21v.1 w (fun (ret81v : Int × Bool × Int) => (((((!decide (ret74v.2.2 = (0 : Int))) || (!decide (ret81v.2.2 = (0 : Int)))) || (ret74v.2.1 != ret81v.2.1)) = true → K false) ∧ ((((!decide (ret74v.2.2 = (0 : Int))) || (!decide (ret81v.2.2 = (0 : Int)))) || (ret74v.2.1 != ret81v.2.1)) = false → VC8_k1 a b K ret21v ret26v))))) ∧ (ret70v = false → VC8_k1 a b K ret21v ret26v)))))))))))

set_option maxHeartbeats 4000000 in
theorem link8 (a : (Int × (Int × ((List (List Int)) × (Int × Int))))) (b : (Int × (Int × ((List (List Int)) × (Int × Int))))) (w : (List Int)) (K : Bool → Prop) (h : VC8 a b w K) : ACalls Try.prog 8 [toV1 (.pr (.int .i64) (.pr (.int .i64) (.pr (.sl (.sl (.int .i64))) (.pr (.int .i64) (.int .u32))))) a, toV1 (.pr (.int .i64) (.pr (.int .i64) (.pr (.sl (.sl (.int .i64))) (.pr (.int .i64) (.int .u32))))) b, toV1 (.sl (.int .i64)) w] (fun res => ∃ y, res = (fun y => [toV1 .bool y]) y ∧ K y) := by
  refine acalls_of_aw [.bool] [.t 6] Try.func8 rfl rfl rfl ?_
  unfold VC8 at h
  refine aw_seq ?_
  refine aw_region ?_
  refine awl_runp 3 [2, 3, 4] [3, 4] (ob := (True ∧ True ∧ True ∧ True)) (st' := (⟨118, [(2, [], .v (.c (.p (.sl (.int .i64)) w))), (3, [], .v (.c (.ptr 3 0))), (4, [], .v (.c (.ptr 4 0)))], [(3, [], .box [.p (.int .i64) a.1, .p (.int .i64) a.2.1, .p (.sl (.sl (.int .i64))) a.2.2.1, .p (.int .i64) a.2.2.2.1, .p (.int .u32) a.2.2.2.2]), (4, [], .box [.p (.int .i64) b.1, .p (.int .i64) b.2.1, .p (.sl (.sl (.int .i64))) b.2.2.1, .p (.int .i64) b.2.2.2.1, .p (.int .u32) b.2.2.2.2])]⟩ : St)) (by kernel_rfl) ⟨trivial, trivial, trivial, trivial⟩ ?_
  refine awl_nil ?_
  refine thenQ_n ?_
  refine aw_seq ?_
  refine aw_region ?_
  refine awl_runp 1 [2, 3, 4, 20] [3, 4] (ob := (True ∧ True)) (st' := (⟨118, [(2, [], .v (.c (.p (.sl (.int .i64)) w))), (3, [], .v (.c (.ptr 3 0))), (4, [], .v (.c (.ptr 4 0))), (20, [], .v (.agg [.p (.int .i64) a.1, .p (.int .i64) a.2.1, .p (.sl (.sl (.int .i64))) a.2.2.1, .p (.int .i64) a.2.2.2.1, .p (.int .u32) a.2.2.2.2]))], [(3, [], .box [.p (.int .i64) a.1, .p (.int .i64) a.2.1, .p (.sl (.sl (.int .i64))) a.2.2.1, .p (.int .i64) a.2.2.2.1, .p (.int .u32) a.2.2.2.2]), (4, [], .box [.p (.int .i64) b.1, .p (.int .i64) b.2.1, .p (.sl (.sl (.int .i64))) b.2.2.1, .p (.int .i64) b.2.2.2.1, .p (.int .u32) b.2.2.2.2])]⟩ : St)) (by kernel_rfl) ⟨trivial, trivial⟩ ?_
  refine awl_callk (p := []) (l := [toV1 (.pr (.int .i64) (.pr (.int .i64) (.pr (.sl (.sl (.int .i64))) (.pr (.int .i64) (.int .u32))))) a]) (cl := []) false [.d (.pr (.int .i64) (.pr (.int .i64) (.pr (.sl (.sl (.int .i64))) (.pr (.int .i64) (.int .u32)))))] [2, 3, 4, 21] [3, 4] (fun (ret21v : (Int × (Int × ((List (List Int)) × (Int × Int)))) × Int) => VC25 b (fun (ret26v : (Int × (Int × ((List (List Int)) × (Int × Int)))) × Int) => VC26 a (fun (ret30v : Int) => gcall (α := Int) (!(!decide (ret30v = (0 : Int)))) (VC26 b) (0 : Int) (fun (ret34v : Int) => ((((!decide (ret30v = (0 : Int))) || (!decide (ret34v = (0 : Int)))) = true → K ((!decide (ret21v.2 = (0 : Int))) || (!decide (ret26v.2 = (0 : Int))))) ∧ (((!decide (ret30v = (0 : Int))) || (!decide (ret34v = (0 : Int)))) = false → (((((((!decide (ret21v.2 = (0 : Int))) || (!decide (ret26v.2 = (0 : Int)))) || (decide (ret21v.1.1 < (1 : Int)))) || (decide (a.1 < ret21v.1.1))) || (decide (b.1 < ret26v.1.1))) = true → K false) ∧ ((((((!decide (ret21v.2 = (0 : Int))) || (!decide (ret26v.2 = (0 : Int)))) || (decide (ret21v.1.1 < (1 : Int)))) || (decide (a.1 < ret21v.1.1))) || (decide (b.1 < ret26v.1.1))) = false → VC16 a w (fun (ret70v : Bool) => ((ret70v = true → VC15 a w (fun (ret74v : Int × Bool × Int) => VC15 ret21v.1 w (fun (ret81v : Int × Bool × Int) => (((((!decide (ret74v.2.2 = (0 : Int))) || (!decide (ret81v.2.2 = (0 : Int)))) || (ret74v.2.1 != ret81v.2.1)) = true → K false) ∧ ((((!decide (ret74v.2.2 = (0 : Int))) || (!decide (ret81v.2.2 = (0 : Int)))) || (ret74v.2.1 != ret81v.2.1)) = false → VC8_k1 a b K ret21v ret26v))))) ∧ (ret70v = false → VC8_k1 a b K ret21v ret26v))))))))))) (fun ret21v => [toV1 (.pr (.int .i64) (.pr (.int .i64) (.pr (.sl (.sl (.int .i64))) (.pr (.int .i64) (.int .u32))))) ret21v.1, toV1 (.int .i64) ret21v.2]) (fun ret21v => (⟨118, [(2, [], .v (.c (.p (.sl (.int .i64)) w))), (3, [], .v (.c (.ptr 3 0))), (4, [], .v (.c (.ptr 4 0))), (21, [], .tup [.agg [.p (.int .i64) ret21v.1.1, .p (.int .i64) ret21v.1.2.1, .p (.sl (.sl (.int .i64))) ret21v.1.2.2.1, .p (.int .i64) ret21v.1.2.2.2.1, .p (.int .u32) ret21v.1.2.2.2.2], .c (.p (.int .i64) ret21v.2)])], [(3, [], .box [.p (.int .i64) a.1, .p (.int .i64) a.2.1, .p (.sl (.sl (.int .i64))) a.2.2.1, .p (.int .i64) a.2.2.2.1, .p (.int .u32) a.2.2.2.2]), (4, [], .box [.p (.int .i64) b.1, .p (.int .i64) b.2.1, .p (.sl (.sl (.int .i64))) b.2.2.1, .p (.int .i64) b.2.2.2.1, .p (.int .u32) b.2.2.2.2])]⟩ : St)) (by kernel_rfl) rfl (by kernel_rfl) rfl (by kernel_rfl) Try.call25 (by kernel_rfl) (fun ret21v => by kernel_rfl) (fun e => by cases e) (fun hg => link25 a _ h) (fun hg => noF hg) (fun ret21v h => ?_)
  have h : VC25 b (fun (ret26v : (Int × (Int × ((List (List Int)) × (Int × Int)))) × Int) => VC26 a (fun (ret30v : Int) => gcall (α := Int) (!(!decide (ret30v = (0 : Int)))) (VC26 b) (0 : Int) (fun (ret34v : Int) => ((((!decide (ret30v = (0 : Int))) || (!decide (ret34v = (0 : Int)))) = true → K ((!decide (ret21v.2 = (0 : Int))) || (!decide (ret26v.2 = (0 : Int))))) ∧ (((!decide (ret30v = (0 : Int))) || (!decide (ret34v = (0 : Int)))) = false → (((((((!decide (ret21v.2 = (0 : Int))) || (!decide (ret26v.2 = (0 : Int)))) || (decide (ret21v.1.1 < (1 : Int)))) || (decide (a.1 < ret21v.1.1))) || (decide (b.1 < ret26v.1.1))) = true → K false) ∧ ((((((!decide (ret21v.2 = (0 : Int))) || (!decide (ret26v.2 = (0 : Int)))) || (decide (ret21v.1.1 < (1 : Int)))) || (decide (a.1 < ret21v.1.1))) || (decide (b.1 < ret26v.1.1))) = false → VC16 a w (fun (ret70v : Bool) => ((ret70v = true → VC15 a w (fun (ret74v : Int × Bool × Int) => VC15 ret21v.1 w (fun (ret81v : Int × Bool × Int) => (((((!decide (ret74v.2.2 = (0 : Int))) || (!decide (ret81v.2.2 = (0 : Int)))) || (ret74v.2.1 != ret81v.2.1)) = true → K false) ∧ ((((!decide (ret74v.2.2 = (0 : Int))) || (!decide (ret81v.2.2 = (0 : Int)))) || (ret74v.2.1 != ret81v.2.1)) = false → VC8_k1 a b K ret21v ret26v))))) ∧ (ret70v = false → VC8_k1 a b K ret21v ret26v)))))))))) := h
  refine awl_runp 6 [2, 3, 4, 7, 8] [3, 4, 7] (ob := (True ∧ True ∧ True ∧ True ∧ True ∧ True ∧ True)) (st' := (⟨118, [(2, [], .v (.c (.p (.sl (.int .i64)) w))), (3, [], .v (.c (.ptr 3 0))), (4, [], .v (.c (.ptr 4 0))), (7, [], .v (.c (.ptr 7 0))), (8, [], .v (.c (.p (.int .i64) ret21v.2)))], [(3, [], .box [.p (.int .i64) a.1, .p (.int .i64) a.2.1, .p (.sl (.sl (.int .i64))) a.2.2.1, .p (.int .i64) a.2.2.2.1, .p (.int .u32) a.2.2.2.2]), (4, [], .box [.p (.int .i64) b.1, .p (.int .i64) b.2.1, .p (.sl (.sl (.int .i64))) b.2.2.1, .p (.int .i64) b.2.2.2.1, .p (.int .u32) b.2.2.2.2]), (7, [], .box [.p (.int .i64) ret21v.1.1, .p (.int .i64) ret21v.1.2.1, .p (.sl (.sl (.int .i64))) ret21v.1.2.2.1, .p (.int .i64) ret21v.1.2.2.2.1, .p (.int .u32) ret21v.1.2.2.2.2])]⟩ : St)) (by kernel_rfl) ⟨trivial, trivial, trivial, trivial, trivial, trivial, trivial⟩ ?_
  refine awl_nil ?_
  refine thenQ_n ?_
  refine aw_seq ?_
  refine aw_region ?_
  refine awl_runp 1 [2, 3, 4, 7, 8, 25] [3, 4, 7] (ob := (True ∧ True)) (st' := (⟨118, [(2, [], .v (.c (.p (.sl (.int .i64)) w))), (3, [], .v (.c (.ptr 3 0))), (4, [], .v (.c (.ptr 4 0))), (7, [], .v (.c (.ptr 7 0))), (8, [], .v (.c (.p (.int .i64) ret21v.2))), (25, [], .v (.agg [.p (.int .i64) b.1, .p (.int .i64) b.2.1, .p (.sl (.sl (.int .i64))) b.2.2.1, .p (.int .i64) b.2.2.2.1, .p (.int .u32) b.2.2.2.2]))], [(3, [], .box [.p (.int .i64) a.1, .p (.int .i64) a.2.1, .p (.sl (.sl (.int .i64))) a.2.2.1, .p (.int .i64) a.2.2.2.1, .p (.int .u32) a.2.2.2.2]), (4, [], .box [.p (.int .i64) b.1, .p (.int .i64) b.2.1, .p (.sl (.sl (.int .i64))) b.2.2.1, .p (.int .i64) b.2.2.2.1, .p (.int .u32) b.2.2.2.2]), (7, [], .box [.p (.int .i64) ret21v.1.1, .p (.int .i64) ret21v.1.2.1, .p (.sl (.sl (.int .i64))) ret21v.1.2.2.1, .p (.int .i64) ret21v.1.2.2.2.1, .p (.int .u32) ret21v.1.2.2.2.2])]⟩ : St)) (by kernel_rfl) ⟨trivial, trivial⟩ ?_
  refine awl_callk (p := []) (l := [toV1 (.pr (.int .i64) (.pr (.int .i64) (.pr (.sl (.sl (.int .i64))) (.pr (.int .i64) (.int .u32))))) b]) (cl := []) false [.d (.pr (.int .i64) (.pr (.int .i64) (.pr (.sl (.sl (.int .i64))) (.pr (.int .i64) (.int .u32)))))] [2, 3, 4, 7, 8, 26] [3, 4, 7] (fun (ret26v : (Int × (Int × ((List (List Int)) × (Int × Int)))) × Int) => VC26 a (fun (ret30v : Int) => gcall (α := Int) (!(!decide (ret30v = (0 : Int)))) (VC26 b) (0 : Int) (fun (ret34v : Int) => ((((!decide (ret30v = (0 : Int))) || (!decide (ret34v = (0 : Int)))) = true → K ((!decide (ret21v.2 = (0 : Int))) || (!decide (ret26v.2 = (0 : Int))))) ∧ (((!decide (ret30v = (0 : Int))) || (!decide (ret34v = (0 : Int)))) = false → (((((((!decide (ret21v.2 = (0 : Int))) || (!decide (ret26v.2 = (0 : Int)))) || (decide (ret21v.1.1 < (1 : Int)))) || (decide (a.1 < ret21v.1.1))) || (decide (b.1 < ret26v.1.1))) = true → K false) ∧ ((((((!decide (ret21v.2 = (0 : Int))) || (!decide (ret26v.2 = (0 : Int)))) || (decide (ret21v.1.1 < (1 : Int)))) || (decide (a.1 < ret21v.1.1))) || (decide (b.1 < ret26v.1.1))) = false → VC16 a w (fun (ret70v : Bool) => ((ret70v = true → VC15 a w (fun (ret74v : Int × Bool × Int) => VC15 ret21v.1 w (fun (ret81v : Int × Bool × Int) => (((((!decide (ret74v.2.2 = (0 : Int))) || (!decide (ret81v.2.2 = (0 : Int)))) || (ret74v.2.1 != ret81v.2.1)) = true → K false) ∧ ((((!decide (ret74v.2.2 = (0 : Int))) || (!decide (ret81v.2.2 = (0 : Int)))) || (ret74v.2.1 != ret81v.2.1)) = false → VC8_k1 a b K ret21v ret26v))))) ∧ (ret70v = false → VC8_k1 a b K ret21v ret26v)))))))))) (fun ret26v => [toV1 (.pr (.int .i64) (.pr (.int .i64) (.pr (.sl (.sl (.int .i64))) (.pr (.int .i64) (.int .u32))))) ret26v.1, toV1 (.int .i64) ret26v.2]) (fun ret26v => (⟨118, [(2, [], .v (.c (.p (.sl (.int .i64)) w))), (3, [], .v (.c (.ptr 3 0))), (4, [], .v (.c (.ptr 4 0))), (7, [], .v (.c (.ptr 7 0))), (8, [], .v (.c (.p (.int .i64) ret21v.2))), (26, [], .tup [.agg [.p (.int .i64) ret26v.1.1, .p (.int .i64) ret26v.1.2.1, .p (.sl (.sl (.int .i64))) ret26v.1.2.2.1, .p (.int .i64) ret26v.1.2.2.2.1, .p (.int .u32) ret26v.1.2.2.2.2], .c (.p (.int .i64) ret26v.2)])], [(3, [], .box [.p (.int .i64) a.1, .p (.int .i64) a.2.1, .p (.sl (.sl (.int .i64))) a.2.2.1, .p (.int .i64) a.2.2.2.1, .p (.int .u32) a.2.2.2.2]), (4, [], .box [.p (.int .i64) b.1, .p (.int .i64) b.2.1, .p (.sl (.sl (.int .i64))) b.2.2.1, .p (.int .i64) b.2.2.2.1, .p (.int .u32) b.2.2.2.2]), (7, [], .box [.p (.int .i64) ret21v.1.1, .p (.int .i64) ret21v.1.2.1, .p (.sl (.sl (.int .i64))) ret21v.1.2.2.1, .p (.int .i64) ret21v.1.2.2.2.1, .p (.int .u32) ret21v.1.2.2.2.2])]⟩ : St)) (by kernel_rfl) rfl (by kernel_rfl) rfl (by kernel_rfl) Try.call25 (by kernel_rfl) (fun ret26v => by kernel_rfl) (fun e => by cases e) (fun hg => link25 b _ h) (fun hg => noF hg) (fun ret26v h => ?_)
  have h : VC26 a (fun (ret30v : Int) => gcall (α := Int) (!(!decide (ret30v = (0 : Int)))) (VC26 b) (0 : Int) (fun (ret34v : Int) => ((((!decide (ret30v = (0 : Int))) || (!decide (ret34v = (0 : Int)))) = true → K ((!decide (ret21v.2 = (0 : Int))) || (!decide (ret26v.2 = (0 : Int))))) ∧ (((!decide (ret30v = (0 : Int))) || (!decide (ret34v = (0 : Int)))) = false → (((((((!decide (ret21v.2 = (0 : Int))) || (!decide (ret26v.2 = (0 : Int)))) || (decide (ret21v.1.1 < (1 : Int)))) || (decide (a.1 < ret21v.1.1))) || (decide (b.1 < ret26v.1.1))) = true → K false) ∧ ((((((!decide (ret21v.2 = (0 : Int))) || (!decide (ret26v.2 = (0 : Int)))) || (decide (ret21v.1.1 < (1 : Int)))) || (decide (a.1 < ret21v.1.1))) || (decide (b.1 < ret26v.1.1))) = false → VC16 a w (fun (ret70v : Bool) => ((ret70v = true → VC15 a w (fun (ret74v : Int × Bool × Int) => VC15 ret21v.1 w (fun (ret81v : Int × Bool × Int) => (((((!decide (ret74v.2.2 = (0 : Int))) || (!decide (ret81v.2.2 = (0 : Int)))) || (ret74v.2.1 != ret81v.2.1)) = true → K false) ∧ ((((!decide (ret74v.2.2 = (0 : Int))) || (!decide (ret81v.2.2 = (0 : Int)))) || (ret74v.2.1 != ret81v.2.1)) = false → VC8_k1 a b K ret21v ret26v))))) ∧ (ret70v = false → VC8_k1 a b K ret21v ret26v))))))))) := h
  refine awl_runp 6 [2, 3, 4, 7, 8, 9, 10] [3, 4, 7, 9] (ob := (True ∧ True ∧ True ∧ True ∧ True ∧ True ∧ True)) (st' := (⟨118, [(2, [], .v (.c (.p (.sl (.int .i64)) w))), (3, [], .v (.c (.ptr 3 0))), (4, [], .v (.c (.ptr 4 0))), (7, [], .v (.c (.ptr 7 0))), (8, [], .v (.c (.p (.int .i64) ret21v.2))), (9, [], .v (.c (.ptr 9 0))), (10, [], .v (.c (.p (.int .i64) ret26v.2)))], [(3, [], .box [.p (.int .i64) a.1, .p (.int .i64) a.2.1, .p (.sl (.sl (.int .i64))) a.2.2.1, .p (.int .i64) a.2.2.2.1, .p (.int .u32) a.2.2.2.2]), (4, [], .box [.p (.int .i64) b.1, .p (.int .i64) b.2.1, .p (.sl (.sl (.int .i64))) b.2.2.1, .p (.int .i64) b.2.2.2.1, .p (.int .u32) b.2.2.2.2]), (7, [], .box [.p (.int .i64) ret21v.1.1, .p (.int .i64) ret21v.1.2.1, .p (.sl (.sl (.int .i64))) ret21v.1.2.2.1, .p (.int .i64) ret21v.1.2.2.2.1, .p (.int .u32) ret21v.1.2.2.2.2]), (9, [], .box [.p (.int .i64) ret26v.1.1, .p (.int .i64) ret26v.1.2.1, .p (.sl (.sl (.int .i64))) ret26v.1.2.2.1, .p (.int .i64) ret26v.1.2.2.2.1, .p (.int .u32) ret26v.1.2.2.2.2])]⟩ : St)) (by kernel_rfl) ⟨trivial, trivial, trivial, trivial, trivial, trivial, trivial⟩ ?_
  refine awl_nil ?_
  refine thenQ_n ?_
  refine aw_seq ?_
  refine aw_seq ?_
  refine aw_region ?_
  refine awl_runp 1 [2, 3, 4, 7, 8, 9, 10, 29] [3, 4, 7, 9] (ob := (True ∧ True)) (st' := (⟨118, [(2, [], .v (.c (.p (.sl (.int .i64)) w))), (3, [], .v (.c (.ptr 3 0))), (4, [], .v (.c (.ptr 4 0))), (7, [], .v (.c (.ptr 7 0))), (8, [], .v (.c (.p (.int .i64) ret21v.2))), (9, [], .v (.c (.ptr 9 0))), (10, [], .v (.c (.p (.int .i64) ret26v.2))), (29, [], .v (.agg [.p (.int .i64) a.1, .p (.int .i64) a.2.1, .p (.sl (.sl (.int .i64))) a.2.2.1, .p (.int .i64) a.2.2.2.1, .p (.int .u32) a.2.2.2.2]))], [(3, [], .box [.p (.int .i64) a.1, .p (.int .i64) a.2.1, .p (.sl (.sl (.int .i64))) a.2.2.1, .p (.int .i64) a.2.2.2.1, .p (.int .u32) a.2.2.2.2]), (4, [], .box [.p (.int .i64) b.1, .p (.int .i64) b.2.1, .p (.sl (.sl (.int .i64))) b.2.2.1, .p (.int .i64) b.2.2.2.1, .p (.int .u32) b.2.2.2.2]), (7, [], .box [.p (.int .i64) ret21v.1.1, .p (.int .i64) ret21v.1.2.1, .p (.sl (.sl (.int .i64))) ret21v.1.2.2.1, .p (.int .i64) ret21v.1.2.2.2.1, .p (.int .u32) ret21v.1.2.2.2.2]), (9, [], .box [.p (.int .i64) ret26v.1.1, .p (.int .i64) ret26v.1.2.1, .p (.sl (.sl (.int .i64))) ret26v.1.2.2.1, .p (.int .i64) ret26v.1.2.2.2.1, .p (.int .u32) ret26v.1.2.2.2.2])]⟩ : St)) (by kernel_rfl) ⟨trivial, trivial⟩ ?_
  refine awl_callk (p := []) (l := [toV1 (.pr (.int .i64) (.pr (.int .i64) (.pr (.sl (.sl (.int .i64))) (.pr (.int .i64) (.int .u32))))) a]) (cl := []) false [.d (.pr (.int .i64) (.pr (.int .i64) (.pr (.sl (.sl (.int .i64))) (.pr (.int .i64) (.int .u32)))))] [2, 3, 4, 7, 8, 9, 10, 30] [3, 4, 7, 9] (fun (ret30v : Int) => gcall (α := Int) (!(!decide (ret30v = (0 : Int)))) (VC26 b) (0 : Int) (fun (ret34v : Int) => ((((!decide (ret30v = (0 : Int))) || (!decide (ret34v = (0 : Int)))) = true → K ((!decide (ret21v.2 = (0 : Int))) || (!decide (ret26v.2 = (0 : Int))))) ∧ (((!decide (ret30v = (0 : Int))) || (!decide (ret34v = (0 : Int)))) = false → (((((((!decide (ret21v.2 = (0 : Int))) || (!decide (ret26v.2 = (0 : Int)))) || (decide (ret21v.1.1 < (1 : Int)))) || (decide (a.1 < ret21v.1.1))) || (decide (b.1 < ret26v.1.1))) = true → K false) ∧ ((((((!decide (ret21v.2 = (0 : Int))) || (!decide (ret26v.2 = (0 : Int)))) || (decide (ret21v.1.1 < (1 : Int)))) || (decide (a.1 < ret21v.1.1))) || (decide (b.1 < ret26v.1.1))) = false → VC16 a w (fun (ret70v : Bool) => ((ret70v = true → VC15 a w (fun (ret74v : Int × Bool × Int) => VC15 ret21v.1 w (fun (ret81v : Int × Bool × Int) => (((((!decide (ret74v.2.2 = (0 : Int))) || (!decide (ret81v.2.2 = (0 : Int)))) || (ret74v.2.1 != ret81v.2.1)) = true → K false) ∧ ((((!decide (ret74v.2.2 = (0 : Int))) || (!decide (ret81v.2.2 = (0 : Int)))) || (ret74v.2.1 != ret81v.2.1)) = false → VC8_k1 a b K ret21v ret26v))))) ∧ (ret70v = false → VC8_k1 a b K ret21v ret26v))))))))) (fun ret30v => [toV1 (.int .i64) ret30v]) (fun ret30v => (⟨118, [(2, [], .v (.c (.p (.sl (.int .i64)) w))), (3, [], .v (.c (.ptr 3 0))), (4, [], .v (.c (.ptr 4 0))), (7, [], .v (.c (.ptr 7 0))), (8, [], .v (.c (.p (.int .i64) ret21v.2))), (9, [], .v (.c (.ptr 9 0))), (10, [], .v (.c (.p (.int .i64) ret26v.2))), (30, [], .v (.c (.p (.int .i64) ret30v)))], [(3, [], .box [.p (.int .i64) a.1, .p (.int .i64) a.2.1, .p (.sl (.sl (.int .i64))) a.2.2.1, .p (.int .i64) a.2.2.2.1, .p (.int .u32) a.2.2.2.2]), (4, [], .box [.p (.int .i64) b.1, .p (.int .i64) b.2.1, .p (.sl (.sl (.int .i64))) b.2.2.1, .p (.int .i64) b.2.2.2.1, .p (.int .u32) b.2.2.2.2]), (7, [], .box [.p (.int .i64) ret21v.1.1, .p (.int .i64) ret21v.1.2.1, .p (.sl (.sl (.int .i64))) ret21v.1.2.2.1, .p (.int .i64) ret21v.1.2.2.2.1, .p (.int .u32) ret21v.1.2.2.2.2]), (9, [], .box [.p (.int .i64) ret26v.1.1, .p (.int .i64) ret26v.1.2.1, .p (.sl (.sl (.int .i64))) ret26v.1.2.2.1, .p (.int .i64) ret26v.1.2.2.2.1, .p (.int .u32) ret26v.1.2.2.2.2])]⟩ : St)) (by kernel_rfl) rfl (by kernel_rfl) rfl (by kernel_rfl) Try.call26 (by kernel_rfl) (fun ret30v => by kernel_rfl) (fun e => by cases e) (fun hg => link26 a _ h) (fun hg => noF hg) (fun ret30v h => ?_)
  have h : gcall (α := Int) (!(!decide (ret30v = (0 : Int)))) (VC26 b) (0 : Int) (fun (ret34v : Int) => ((((!decide (ret30v = (0 : Int))) || (!decide (ret34v = (0 : Int)))) = true → K ((!decide (ret21v.2 = (0 : Int))) || (!decide (ret26v.2 = (0 : Int))))) ∧ (((!decide (ret30v = (0 : Int))) || (!decide (ret34v = (0 : Int)))) = false → (((((((!decide (ret21v.2 = (0 : Int))) || (!decide (ret26v.2 = (0 : Int)))) || (decide (ret21v.1.1 < (1 : Int)))) || (decide (a.1 < ret21v.1.1))) || (decide (b.1 < ret26v.1.1))) = true → K false) ∧ ((((((!decide (ret21v.2 = (0 : Int))) || (!decide (ret26v.2 = (0 : Int)))) || (decide (ret21v.1.1 < (1 : Int)))) || (decide (a.1 < ret21v.1.1))) || (decide (b.1 < ret26v.1.1))) = false → VC16 a w (fun (ret70v : Bool) => ((ret70v = true → VC15 a w (fun (ret74v : Int × Bool × Int) => VC15 ret21v.1 w (fun (ret81v : Int × Bool × Int) => (((((!decide (ret74v.2.2 = (0 : Int))) || (!decide (ret81v.2.2 = (0 : Int)))) || (ret74v.2.1 != ret81v.2.1)) = true → K false) ∧ ((((!decide (ret74v.2.2 = (0 : Int))) || (!decide (ret81v.2.2 = (0 : Int)))) || (ret74v.2.1 != ret81v.2.1)) = false → VC8_k1 a b K ret21v ret26v))))) ∧ (ret70v = false → VC8_k1 a b K ret21v ret26v)))))))) := h
  refine awl_runp 3 [2, 3, 4, 7, 8, 9, 10, 32, 33] [3, 4, 7, 9] (ob := (True ∧ True ∧ ((!decide (ret30v = (0 : Int))) = false → True) ∧ True)) (st' := (⟨118, [(2, [], .v (.c (.p (.sl (.int .i64)) w))), (3, [], .v (.c (.ptr 3 0))), (4, [], .v (.c (.ptr 4 0))), (7, [], .v (.c (.ptr 7 0))), (8, [], .v (.c (.p (.int .i64) ret21v.2))), (9, [], .v (.c (.ptr 9 0))), (10, [], .v (.c (.p (.int .i64) ret26v.2))), (32, [], .v (.c (.p .bool (!decide (ret30v = (0 : Int)))))), (33, [(32, false)], .v (.agg [.p (.int .i64) b.1, .p (.int .i64) b.2.1, .p (.sl (.sl (.int .i64))) b.2.2.1, .p (.int .i64) b.2.2.2.1, .p (.int .u32) b.2.2.2.2]))], [(3, [], .box [.p (.int .i64) a.1, .p (.int .i64) a.2.1, .p (.sl (.sl (.int .i64))) a.2.2.1, .p (.int .i64) a.2.2.2.1, .p (.int .u32) a.2.2.2.2]), (4, [], .box [.p (.int .i64) b.1, .p (.int .i64) b.2.1, .p (.sl (.sl (.int .i64))) b.2.2.1, .p (.int .i64) b.2.2.2.1, .p (.int .u32) b.2.2.2.2]), (7, [], .box [.p (.int .i64) ret21v.1.1, .p (.int .i64) ret21v.1.2.1, .p (.sl (.sl (.int .i64))) ret21v.1.2.2.1, .p (.int .i64) ret21v.1.2.2.2.1, .p (.int .u32) ret21v.1.2.2.2.2]), (9, [], .box [.p (.int .i64) ret26v.1.1, .p (.int .i64) ret26v.1.2.1, .p (.sl (.sl (.int .i64))) ret26v.1.2.2.1, .p (.int .i64) ret26v.1.2.2.2.1, .p (.int .u32) ret26v.1.2.2.2.2])]⟩ : St)) (by kernel_rfl) ⟨trivial, trivial, (fun _ => trivial), trivial⟩ ?_
  refine awl_callk (p := [(32, false)]) (l := [toV1 (.pr (.int .i64) (.pr (.int .i64) (.pr (.sl (.sl (.int .i64))) (.pr (.int .i64) (.int .u32))))) b]) (cl := []) false [.d (.pr (.int .i64) (.pr (.int .i64) (.pr (.sl (.sl (.int .i64))) (.pr (.int .i64) (.int .u32)))))] [2, 3, 4, 7, 8, 9, 10, 32, 34] [3, 4, 7, 9] (fun (ret34v : Int) => ((((!decide (ret30v = (0 : Int))) || (!decide (ret34v = (0 : Int)))) = true → K ((!decide (ret21v.2 = (0 : Int))) || (!decide (ret26v.2 = (0 : Int))))) ∧ (((!decide (ret30v = (0 : Int))) || (!decide (ret34v = (0 : Int)))) = false → (((((((!decide (ret21v.2 = (0 : Int))) || (!decide (ret26v.2 = (0 : Int)))) || (decide (ret21v.1.1 < (1 : Int)))) || (decide (a.1 < ret21v.1.1))) || (decide (b.1 < ret26v.1.1))) = true → K false) ∧ ((((((!decide (ret21v.2 = (0 : Int))) || (!decide (ret26v.2 = (0 : Int)))) || (decide (ret21v.1.1 < (1 : Int)))) || (decide (a.1 < ret21v.1.1))) || (decide (b.1 < ret26v.1.1))) = false → VC16 a w (fun (ret70v : Bool) => ((ret70v = true → VC15 a w (fun (ret74v : Int × Bool × Int) => VC15 ret21v.1 w (fun (ret81v : Int × Bool × Int) => (((((!decide (ret74v.2.2 = (0 : Int))) || (!decide (ret81v.2.2 = (0 : Int)))) || (ret74v.2.1 != ret81v.2.1)) = true → K false) ∧ ((((!decide (ret74v.2.2 = (0 : Int))) || (!decide (ret81v.2.2 = (0 : Int)))) || (ret74v.2.1 != ret81v.2.1)) = false → VC8_k1 a b K ret21v ret26v))))) ∧ (ret70v = false → VC8_k1 a b K ret21v ret26v)))))))) (fun ret34v => [toV1 (.int .i64) ret34v]) (fun ret34v => (⟨118, [(2, [], .v (.c (.p (.sl (.int .i64)) w))), (3, [], .v (.c (.ptr 3 0))), (4, [], .v (.c (.ptr 4 0))), (7, [], .v (.c (.ptr 7 0))), (8, [], .v (.c (.p (.int .i64) ret21v.2))), (9, [], .v (.c (.ptr 9 0))), (10, [], .v (.c (.p (.int .i64) ret26v.2))), (32, [], .v (.c (.p .bool (!decide (ret30v = (0 : Int)))))), (34, [(32, false)], .v (.c (.p (.int .i64) ret34v)))], [(3, [], .box [.p (.int .i64) a.1, .p (.int .i64) a.2.1, .p (.sl (.sl (.int .i64))) a.2.2.1, .p (.int .i64) a.2.2.2.1, .p (.int .u32) a.2.2.2.2]), (4, [], .box [.p (.int .i64) b.1, .p (.int .i64) b.2.1, .p (.sl (.sl (.int .i64))) b.2.2.1, .p (.int .i64) b.2.2.2.1, .p (.int .u32) b.2.2.2.2]), (7, [], .box [.p (.int .i64) ret21v.1.1, .p (.int .i64) ret21v.1.2.1, .p (.sl (.sl (.int .i64))) ret21v.1.2.2.1, .p (.int .i64) ret21v.1.2.2.2.1, .p (.int .u32) ret21v.1.2.2.2.2]), (9, [], .box [.p (.int .i64) ret26v.1.1, .p (.int .i64) ret26v.1.2.1, .p (.sl (.sl (.int .i64))) ret26v.1.2.2.1, .p (.int .i64) ret26v.1.2.2.2.1, .p (.int .u32) ret26v.1.2.2.2.2])]⟩ : St)) (by kernel_rfl) rfl (by kernel_rfl) rfl (by kernel_rfl) Try.call26 (by kernel_rfl) (fun ret34v => by kernel_rfl) (fun e => by cases e) (fun hg => link26 b _ (by have := gcall_T h (show (!(!decide (ret30v = (0 : Int)))) = true from hg); exact this)) (fun hg => ⟨(0 : Int), by have := gcall_F h (show (!(!decide (ret30v = (0 : Int)))) = false from hg); exact this⟩) (fun ret34v h => ?_)
  have h : ((((!decide (ret30v = (0 : Int))) || (!decide (ret34v = (0 : Int)))) = true → K ((!decide (ret21v.2 = (0 : Int))) || (!decide (ret26v.2 = (0 : Int))))) ∧ (((!decide (ret30v = (0 : Int))) || (!decide (ret34v = (0 : Int)))) = false → (((((((!decide (ret21v.2 = (0 : Int))) || (!decide (ret26v.2 = (0 : Int)))) || (decide (ret21v.1.1 < (1 : Int)))) || (decide (a.1 < ret21v.1.1))) || (decide (b.1 < ret26v.1.1))) = true → K false) ∧ ((((((!decide (ret21v.2 = (0 : Int))) || (!decide (ret26v.2 = (0 : Int)))) || (decide (ret21v.1.1 < (1 : Int)))) || (decide (a.1 < ret21v.1.1))) || (decide (b.1 < ret26v.1.1))) = false → VC16 a w (fun (ret70v : Bool) => ((ret70v = true → VC15 a w (fun (ret74v : Int × Bool × Int) => VC15 ret21v.1 w (fun (ret81v : Int × Bool × Int) => (((((!decide (ret74v.2.2 = (0 : Int))) || (!decide (ret81v.2.2 = (0 : Int)))) || (ret74v.2.1 != ret81v.2.1)) = true → K false) ∧ ((((!decide (ret74v.2.2 = (0 : Int))) || (!decide (ret81v.2.2 = (0 : Int)))) || (ret74v.2.1 != ret81v.2.1)) = false → VC8_k1 a b K ret21v ret26v))))) ∧ (ret70v = false → VC8_k1 a b K ret21v ret26v))))))) := h
  refine awl_runp 2 [2, 3, 4, 7, 8, 9, 10, 36] [3, 4, 7, 9] (ob := (((!decide (ret30v = (0 : Int))) = false → True) ∧ True ∧ True)) (st' := (⟨118, [(2, [], .v (.c (.p (.sl (.int .i64)) w))), (3, [], .v (.c (.ptr 3 0))), (4, [], .v (.c (.ptr 4 0))), (7, [], .v (.c (.ptr 7 0))), (8, [], .v (.c (.p (.int .i64) ret21v.2))), (9, [], .v (.c (.ptr 9 0))), (10, [], .v (.c (.p (.int .i64) ret26v.2))), (36, [], .v (.c (.p .bool ((!decide (ret30v = (0 : Int))) || (!decide (ret34v = (0 : Int)))))))], [(3, [], .box [.p (.int .i64) a.1, .p (.int .i64) a.2.1, .p (.sl (.sl (.int .i64))) a.2.2.1, .p (.int .i64) a.2.2.2.1, .p (.int .u32) a.2.2.2.2]), (4, [], .box [.p (.int .i64) b.1, .p (.int .i64) b.2.1, .p (.sl (.sl (.int .i64))) b.2.2.1, .p (.int .i64) b.2.2.2.1, .p (.int .u32) b.2.2.2.2]), (7, [], .box [.p (.int .i64) ret21v.1.1, .p (.int .i64) ret21v.1.2.1, .p (.sl (.sl (.int .i64))) ret21v.1.2.2.1, .p (.int .i64) ret21v.1.2.2.2.1, .p (.int .u32) ret21v.1.2.2.2.2]), (9, [], .box [.p (.int .i64) ret26v.1.1, .p (.int .i64) ret26v.1.2.1, .p (.sl (.sl (.int .i64))) ret26v.1.2.2.1, .p (.int .i64) ret26v.1.2.2.2.1, .p (.int .u32) ret26v.1.2.2.2.2])]⟩ : St)) (by kernel_rfl) ⟨(fun _ => trivial), trivial, trivial⟩ ?_
  refine awl_nil ?_
  refine thenQ_n ?_
  refine aw_cond (b := ((!decide (ret30v = (0 : Int))) || (!decide (ret34v = (0 : Int))))) (by kernel_rfl) (fun hb => ?_) (fun hb => ?_)
  · have h := h.1 hb
    refine aw_seq ?_
    refine aw_region ?_
    refine awl_runp 7 [6] [] (ob := (True ∧ True ∧ True ∧ ((!decide (ret21v.2 = (0 : Int))) = false → True) ∧ ((!decide (ret21v.2 = (0 : Int))) = false → True) ∧ True ∧ True ∧ True)) (st' := (⟨118, [(6, [], .v (.c (.p .bool ((!decide (ret21v.2 = (0 : Int))) || (!decide (ret26v.2 = (0 : Int)))))))], []⟩ : St)) (by kernel_rfl) ⟨trivial, trivial, trivial, (fun _ => trivial), (fun _ => trivial), trivial, trivial, trivial⟩ ?_
    refine awl_nil ?_
    refine thenQ_n ?_
    refine aw_ret ?_
    refine thenQ_r ?_
    exact retQ_r (σ := Bool) (R := (fun y => [toV1 .bool y])) (ob := (True ∧ True)) ((!decide (ret21v.2 = (0 : Int))) || (!decide (ret26v.2 = (0 : Int)))) (by kernel_rfl) ⟨trivial, trivial⟩ h
  · have h := h.2 hb
    refine aw_skip ?_
    refine thenQ_n ?_
    refine aw_seq ?_
    refine aw_seq ?_
    refine aw_region ?_
    refine awl_runp 25 [2, 3, 4, 7, 9, 67] [3, 4, 7, 9] (ob := (True ∧ True ∧ True ∧ ((!decide (ret21v.2 = (0 : Int))) = false → True) ∧ ((!decide (ret21v.2 = (0 : Int))) = false → True) ∧ True ∧ True ∧ (((!decide (ret21v.2 = (0 : Int))) || (!decide (ret26v.2 = (0 : Int)))) = false → True) ∧ (((!decide (ret21v.2 = (0 : Int))) || (!decide (ret26v.2 = (0 : Int)))) = false → True) ∧ (((!decide (ret21v.2 = (0 : Int))) || (!decide (ret26v.2 = (0 : Int)))) = false → True) ∧ True ∧ True ∧ ((((!decide (ret21v.2 = (0 : Int))) || (!decide (ret26v.2 = (0 : Int)))) || (decide (ret21v.1.1 < (1 : Int)))) = false → True) ∧ ((((!decide (ret21v.2 = (0 : Int))) || (!decide (ret26v.2 = (0 : Int)))) || (decide (ret21v.1.1 < (1 : Int)))) = false → True) ∧ ((((!decide (ret21v.2 = (0 : Int))) || (!decide (ret26v.2 = (0 : Int)))) || (decide (ret21v.1.1 < (1 : Int)))) = false → True) ∧ ((((!decide (ret21v.2 = (0 : Int))) || (!decide (ret26v.2 = (0 : Int)))) || (decide (ret21v.1.1 < (1 : Int)))) = false → True) ∧ ((((!decide (ret21v.2 = (0 : Int))) || (!decide (ret26v.2 = (0 : Int)))) || (decide (ret21v.1.1 < (1 : Int)))) = false → True) ∧ True ∧ True ∧ (((((!decide (ret21v.2 = (0 : Int))) || (!decide (ret26v.2 = (0 : Int)))) || (decide (ret21v.1.1 < (1 : Int)))) || (decide (a.1 < ret21v.1.1))) = false → True) ∧ (((((!decide (ret21v.2 = (0 : Int))) || (!decide (ret26v.2 = (0 : Int)))) || (decide (ret21v.1.1 < (1 : Int)))) || (decide (a.1 < ret21v.1.1))) = false → True) ∧ (((((!decide (ret21v.2 = (0 : Int))) || (!decide (ret26v.2 = (0 : Int)))) || (decide (ret21v.1.1 < (1 : Int)))) || (decide (a.1 < ret21v.1.1))) = false → True) ∧ (((((!decide (ret21v.2 = (0 : Int))) || (!decide (ret26v.2 = (0 : Int)))) || (decide (ret21v.1.1 < (1 : Int)))) || (decide (a.1 < ret21v.1.1))) = false → True) ∧ (((((!decide (ret21v.2 = (0 : Int))) || (!decide (ret26v.2 = (0 : Int)))) || (decide (ret21v.1.1 < (1 : Int)))) || (decide (a.1 < ret21v.1.1))) = false → True) ∧ True ∧ True)) (st' := (⟨118, [(2, [], .v (.c (.p (.sl (.int .i64)) w))), (3, [], .v (.c (.ptr 3 0))), (4, [], .v (.c (.ptr 4 0))), (7, [], .v (.c (.ptr 7 0))), (9, [], .v (.c (.ptr 9 0))), (67, [], .v (.c (.p .bool (((((!decide (ret21v.2 = (0 : Int))) || (!decide (ret26v.2 = (0 : Int)))) || (decide (ret21v.1.1 < (1 : Int)))) || (decide (a.1 < ret21v.1.1))) || (decide (b.1 < ret26v.1.1))))))], [(3, [], .box [.p (.int .i64) a.1, .p (.int .i64) a.2.1, .p (.sl (.sl (.int .i64))) a.2.2.1, .p (.int .i64) a.2.2.2.1, .p (.int .u32) a.2.2.2.2]), (4, [], .box [.p (.int .i64) b.1, .p (.int .i64) b.2.1, .p (.sl (.sl (.int .i64))) b.2.2.1, .p (.int .i64) b.2.2.2.1, .p (.int .u32) b.2.2.2.2]), (7, [], .box [.p (.int .i64) ret21v.1.1, .p (.int .i64) ret21v.1.2.1, .p (.sl (.sl (.int .i64))) ret21v.1.2.2.1, .p (.int .i64) ret21v.1.2.2.2.1, .p (.int .u32) ret21v.1.2.2.2.2]), (9, [], .box [.p (.int .i64) ret26v.1.1, .p (.int .i64) ret26v.1.2.1, .p (.sl (.sl (.int .i64))) ret26v.1.2.2.1, .p (.int .i64) ret26v.1.2.2.2.1, .p (.int .u32) ret26v.1.2.2.2.2])]⟩ : St)) (by kernel_rfl) ⟨trivial, trivial, trivial, (fun _ => trivial), (fun _ => trivial), trivial, trivial, (fun _ => trivial), (fun _ => trivial), (fun _ => trivial), trivial, trivial, (fun _ => trivial), (fun _ => trivial), (fun _ => trivial), (fun _ => trivial), (fun _ => trivial), trivial, trivial, (fun _ => trivial), (fun _ => trivial), (fun _ => trivial), (fun _ => trivial), (fun _ => trivial), trivial, trivial⟩ ?_
    refine awl_nil ?_
    refine thenQ_n ?_
    refine aw_cond (b := (((((!decide (ret21v.2 = (0 : Int))) || (!decide (ret26v.2 = (0 : Int)))) || (decide (ret21v.1.1 < (1 : Int)))) || (decide (a.1 < ret21v.1.1))) || (decide (b.1 < ret26v.1.1)))) (by kernel_rfl) (fun hb => ?_) (fun hb => ?_)
    · have h := h.1 hb
      refine aw_seq ?_
      refine aw_region ?_
      refine awl_runp 1 [6] [] (ob := (True ∧ True)) (st' := (⟨118, [(6, [], .v (.c (.p .bool false)))], []⟩ : St)) (by kernel_rfl) ⟨trivial, trivial⟩ ?_
      refine awl_nil ?_
      refine thenQ_n ?_
      refine aw_ret ?_
      refine thenQ_r ?_
      exact retQ_r (σ := Bool) (R := (fun y => [toV1 .bool y])) (ob := (True ∧ True)) false (by kernel_rfl) ⟨trivial, trivial⟩ h
    · have h := h.2 hb
      refine aw_skip ?_
      refine thenQ_n ?_
      refine aw_seq ?_
      refine aw_seq ?_
      refine aw_region ?_
      refine awl_runp 2 [2, 3, 4, 7, 9, 68, 69] [3, 4, 7, 9] (ob := (True ∧ True ∧ True)) (st' := (⟨118, [(2, [], .v (.c (.p (.sl (.int .i64)) w))), (3, [], .v (.c (.ptr 3 0))), (4, [], .v (.c (.ptr 4 0))), (7, [], .v (.c (.ptr 7 0))), (9, [], .v (.c (.ptr 9 0))), (68, [], .v (.agg [.p (.int .i64) a.1, .p (.int .i64) a.2.1, .p (.sl (.sl (.int .i64))) a.2.2.1, .p (.int .i64) a.2.2.2.1, .p (.int .u32) a.2.2.2.2])), (69, [], .v (.c (.p (.sl (.int .i64)) w)))], [(3, [], .box [.p (.int .i64) a.1, .p (.int .i64) a.2.1, .p (.sl (.sl (.int .i64))) a.2.2.1, .p (.int .i64) a.2.2.2.1, .p (.int .u32) a.2.2.2.2]), (4, [], .box [.p (.int .i64) b.1, .p (.int .i64) b.2.1, .p (.sl (.sl (.int .i64))) b.2.2.1, .p (.int .i64) b.2.2.2.1, .p (.int .u32) b.2.2.2.2]), (7, [], .box [.p (.int .i64) ret21v.1.1, .p (.int .i64) ret21v.1.2.1, .p (.sl (.sl (.int .i64))) ret21v.1.2.2.1, .p (.int .i64) ret21v.1.2.2.2.1, .p (.int .u32) ret21v.1.2.2.2.2]), (9, [], .box [.p (.int .i64) ret26v.1.1, .p (.int .i64) ret26v.1.2.1, .p (.sl (.sl (.int .i64))) ret26v.1.2.2.1, .p (.int .i64) ret26v.1.2.2.2.1, .p (.int .u32) ret26v.1.2.2.2.2])]⟩ : St)) (by kernel_rfl) ⟨trivial, trivial, trivial⟩ ?_
      refine awl_callk (p := []) (l := [toV1 (.pr (.int .i64) (.pr (.int .i64) (.pr (.sl (.sl (.int .i64))) (.pr (.int .i64) (.int .u32))))) a, toV1 (.sl (.int .i64)) w]) (cl := []) false [.d (.pr (.int .i64) (.pr (.int .i64) (.pr (.sl (.sl (.int .i64))) (.pr (.int .i64) (.int .u32))))), .d (.sl (.int .i64))] [2, 3, 4, 7, 9, 70] [3, 4, 7, 9] (fun (ret70v : Bool) => ((ret70v = true → VC15 a w (fun (ret74v : Int × Bool × Int) => VC15 ret21v.1 w (fun (ret81v : Int × Bool × Int) => (((((!decide (ret74v.2.2 = (0 : Int))) || (!decide (ret81v.2.2 = (0 : Int)))) || (ret74v.2.1 != ret81v.2.1)) = true → K false) ∧ ((((!decide (ret74v.2.2 = (0 : Int))) || (!decide (ret81v.2.2 = (0 : Int)))) || (ret74v.2.1 != ret81v.2.1)) = false → VC8_k1 a b K ret21v ret26v))))) ∧ (ret70v = false → VC8_k1 a b K ret21v ret26v))) (fun ret70v => [toV1 .bool ret70v]) (fun ret70v => (⟨118, [(2, [], .v (.c (.p (.sl (.int .i64)) w))), (3, [], .v (.c (.ptr 3 0))), (4, [], .v (.c (.ptr 4 0))), (7, [], .v (.c (.ptr 7 0))), (9, [], .v (.c (.ptr 9 0))), (70, [], .v (.c (.p .bool ret70v)))], [(3, [], .box [.p (.int .i64) a.1, .p (.int .i64) a.2.1, .p (.sl (.sl (.int .i64))) a.2.2.1, .p (.int .i64) a.2.2.2.1, .p (.int .u32) a.2.2.2.2]), (4, [], .box [.p (.int .i64) b.1, .p (.int .i64) b.2.1, .p (.sl (.sl (.int .i64))) b.2.2.1, .p (.int .i64) b.2.2.2.1, .p (.int .u32) b.2.2.2.2]), (7, [], .box [.p (.int .i64) ret21v.1.1, .p (.int .i64) ret21v.1.2.1, .p (.sl (.sl (.int .i64))) ret21v.1.2.2.1, .p (.int .i64) ret21v.1.2.2.2.1, .p (.int .u32) ret21v.1.2.2.2.2]), (9, [], .box [.p (.int .i64) ret26v.1.1, .p (.int .i64) ret26v.1.2.1, .p (.sl (.sl (.int .i64))) ret26v.1.2.2.1, .p (.int .i64) ret26v.1.2.2.2.1, .p (.int .u32) ret26v.1.2.2.2.2])]⟩ : St)) (by kernel_rfl) rfl (by kernel_rfl) rfl (by kernel_rfl) Try.call16 (by kernel_rfl) (fun ret70v => by kernel_rfl) (fun e => by cases e) (fun hg => link16 a w _ h) (fun hg => noF hg) (fun ret70v h => ?_)
      have h : ((ret70v = true → VC15 a w (fun (ret74v : Int × Bool × Int) => VC15 ret21v.1 w (fun (ret81v : Int × Bool × Int) => (((((!decide (ret74v.2.2 = (0 : Int))) || (!decide (ret81v.2.2 = (0 : Int)))) || (ret74v.2.1 != ret81v.2.1)) = true → K false) ∧ ((((!decide (ret74v.2.2 = (0 : Int))) || (!decide (ret81v.2.2 = (0 : Int)))) || (ret74v.2.1 != ret81v.2.1)) = false → VC8_k1 a b K ret21v ret26v))))) ∧ (ret70v = false → VC8_k1 a b K ret21v ret26v)) := h
      refine awl_nil ?_
      refine thenQ_n ?_
      refine withJoin (σ := Unit) (fun s => (⟨118, [(3, [], .v (.c (.ptr 3 0))), (4, [], .v (.c (.ptr 4 0))), (7, [], .v (.c (.ptr 7 0))), (9, [], .v (.c (.ptr 9 0)))], [(3, [], .box [.p (.int .i64) a.1, .p (.int .i64) a.2.1, .p (.sl (.sl (.int .i64))) a.2.2.1, .p (.int .i64) a.2.2.2.1, .p (.int .u32) a.2.2.2.2]), (4, [], .box [.p (.int .i64) b.1, .p (.int .i64) b.2.1, .p (.sl (.sl (.int .i64))) b.2.2.1, .p (.int .i64) b.2.2.2.1, .p (.int .u32) b.2.2.2.2]), (7, [], .box [.p (.int .i64) ret21v.1.1, .p (.int .i64) ret21v.1.2.1, .p (.sl (.sl (.int .i64))) ret21v.1.2.2.1, .p (.int .i64) ret21v.1.2.2.2.1, .p (.int .u32) ret21v.1.2.2.2.2]), (9, [], .box [.p (.int .i64) ret26v.1.1, .p (.int .i64) ret26v.1.2.1, .p (.sl (.sl (.int .i64))) ret26v.1.2.2.1, .p (.int .i64) ret26v.1.2.2.2.1, .p (.int .u32) ret26v.1.2.2.2.2])]⟩ : St)) (fun s => VC8_k1 a b K ret21v ret26v) (fun s h => ?_) (fun rest1 => ?_)
      · have h : VC8_k1 a b K ret21v ret26v := h
        unfold VC8_k1 at h
        refine thenQ_n ?_
        refine aw_seq ?_
        refine aw_region ?_
        refine awl_runp 2 [3, 4, 7, 9, 97, 98] [3, 4, 7, 9] (ob := (True ∧ True ∧ True)) (st' := (⟨118, [(3, [], .v (.c (.ptr 3 0))), (4, [], .v (.c (.ptr 4 0))), (7, [], .v (.c (.ptr 7 0))), (9, [], .v (.c (.ptr 9 0))), (97, [], .v (.agg [.p (.int .i64) a.1, .p (.int .i64) a.2.1, .p (.sl (.sl (.int .i64))) a.2.2.1, .p (.int .i64) a.2.2.2.1, .p (.int .u32) a.2.2.2.2])), (98, [], .v (.agg [.p (.int .i64) b.1, .p (.int .i64) b.2.1, .p (.sl (.sl (.int .i64))) b.2.2.1, .p (.int .i64) b.2.2.2.1, .p (.int .u32) b.2.2.2.2]))], [(3, [], .box [.p (.int .i64) a.1, .p (.int .i64) a.2.1, .p (.sl (.sl (.int .i64))) a.2.2.1, .p (.int .i64) a.2.2.2.1, .p (.int .u32) a.2.2.2.2]), (4, [], .box [.p (.int .i64) b.1, .p (.int .i64) b.2.1, .p (.sl (.sl (.int .i64))) b.2.2.1, .p (.int .i64) b.2.2.2.1, .p (.int .u32) b.2.2.2.2]), (7, [], .box [.p (.int .i64) ret21v.1.1, .p (.int .i64) ret21v.1.2.1, .p (.sl (.sl (.int .i64))) ret21v.1.2.2.1, .p (.int .i64) ret21v.1.2.2.2.1, .p (.int .u32) ret21v.1.2.2.2.2]), (9, [], .box [.p (.int .i64) ret26v.1.1, .p (.int .i64) ret26v.1.2.1, .p (.sl (.sl (.int .i64))) ret26v.1.2.2.1, .p (.int .i64) ret26v.1.2.2.2.1, .p (.int .u32) ret26v.1.2.2.2.2])]⟩ : St)) (by kernel_rfl) ⟨trivial, trivial, trivial⟩ ?_
        refine awl_callk (p := []) (l := [toV1 (.pr (.int .i64) (.pr (.int .i64) (.pr (.sl (.sl (.int .i64))) (.pr (.int .i64) (.int .u32))))) a, toV1 (.pr (.int .i64) (.pr (.int .i64) (.pr (.sl (.sl (.int .i64))) (.pr (.int .i64) (.int .u32))))) b]) (cl := []) false [.d (.pr (.int .i64) (.pr (.int .i64) (.pr (.sl (.sl (.int .i64))) (.pr (.int .i64) (.int .u32))))), .d (.pr (.int .i64) (.pr (.int .i64) (.pr (.sl (.sl (.int .i64))) (.pr (.int .i64) (.int .u32)))))] [3, 4, 7, 9, 99] [3, 4, 7, 9] (fun (ret99v : Bool × Int) => (((!decide (a.2.1 = b.2.1)) = true → K (!decide (ret99v.2 = (0 : Int)))) ∧ ((!decide (a.2.1 = b.2.1)) = false → gcall (α := Bool) (decide (ret99v.2 = (0 : Int))) (VC28 ret21v.1 ret26v.1) false (fun (ret115v : Bool) => K ((decide (ret99v.2 = (0 : Int))) && (ret99v.1 == ret115v)))))) (fun ret99v => [toV1 .bool ret99v.1, toV1 (.int .i64) ret99v.2]) (fun ret99v => (⟨118, [(3, [], .v (.c (.ptr 3 0))), (4, [], .v (.c (.ptr 4 0))), (7, [], .v (.c (.ptr 7 0))), (9, [], .v (.c (.ptr 9 0))), (99, [], .tup [.c (.p .bool ret99v.1), .c (.p (.int .i64) ret99v.2)])], [(3, [], .box [.p (.int .i64) a.1, .p (.int .i64) a.2.1, .p (.sl (.sl (.int .i64))) a.2.2.1, .p (.int .i64) a.2.2.2.1, .p (.int .u32) a.2.2.2.2]), (4, [], .box [.p (.int .i64) b.1, .p (.int .i64) b.2.1, .p (.sl (.sl (.int .i64))) b.2.2.1, .p (.int .i64) b.2.2.2.1, .p (.int .u32) b.2.2.2.2]), (7, [], .box [.p (.int .i64) ret21v.1.1, .p (.int .i64) ret21v.1.2.1, .p (.sl (.sl (.int .i64))) ret21v.1.2.2.1, .p (.int .i64) ret21v.1.2.2.2.1, .p (.int .u32) ret21v.1.2.2.2.2]), (9, [], .box [.p (.int .i64) ret26v.1.1, .p (.int .i64) ret26v.1.2.1, .p (.sl (.sl (.int .i64))) ret26v.1.2.2.1, .p (.int .i64) ret26v.1.2.2.2.1, .p (.int .u32) ret26v.1.2.2.2.2])]⟩ : St)) (by kernel_rfl) rfl (by kernel_rfl) rfl (by kernel_rfl) Try.call27 (by kernel_rfl) (fun ret99v => by kernel_rfl) (fun e => by cases e) (fun hg => link27 a b _ h) (fun hg => noF hg) (fun ret99v h => ?_)
        have h : (((!decide (a.2.1 = b.2.1)) = true → K (!decide (ret99v.2 = (0 : Int)))) ∧ ((!decide (a.2.1 = b.2.1)) = false → gcall (α := Bool) (decide (ret99v.2 = (0 : Int))) (VC28 ret21v.1 ret26v.1) false (fun (ret115v : Bool) => K ((decide (ret99v.2 = (0 : Int))) && (ret99v.1 == ret115v))))) := h
        refine awl_runp 5 [3, 4, 7, 9, 17, 18] [3, 4, 7, 9] (ob := (True ∧ True ∧ True ∧ True ∧ True ∧ True)) (st' := (⟨118, [(3, [], .v (.c (.ptr 3 0))), (4, [], .v (.c (.ptr 4 0))), (7, [], .v (.c (.ptr 7 0))), (9, [], .v (.c (.ptr 9 0))), (17, [], .v (.c (.p .bool ret99v.1))), (18, [], .v (.c (.p (.int .i64) ret99v.2)))], [(3, [], .box [.p (.int .i64) a.1, .p (.int .i64) a.2.1, .p (.sl (.sl (.int .i64))) a.2.2.1, .p (.int .i64) a.2.2.2.1, .p (.int .u32) a.2.2.2.2]), (4, [], .box [.p (.int .i64) b.1, .p (.int .i64) b.2.1, .p (.sl (.sl (.int .i64))) b.2.2.1, .p (.int .i64) b.2.2.2.1, .p (.int .u32) b.2.2.2.2]), (7, [], .box [.p (.int .i64) ret21v.1.1, .p (.int .i64) ret21v.1.2.1, .p (.sl (.sl (.int .i64))) ret21v.1.2.2.1, .p (.int .i64) ret21v.1.2.2.2.1, .p (.int .u32) ret21v.1.2.2.2.2]), (9, [], .box [.p (.int .i64) ret26v.1.1, .p (.int .i64) ret26v.1.2.1, .p (.sl (.sl (.int .i64))) ret26v.1.2.2.1, .p (.int .i64) ret26v.1.2.2.2.1, .p (.int .u32) ret26v.1.2.2.2.2])]⟩ : St)) (by kernel_rfl) ⟨trivial, trivial, trivial, trivial, trivial, trivial⟩ ?_
        refine awl_nil ?_
        refine thenQ_n ?_
        refine aw_seq ?_
        refine aw_seq ?_
        refine aw_region ?_
        refine awl_runp 5 [7, 9, 17, 18, 106] [7, 9] (ob := (True ∧ True ∧ True ∧ True ∧ True ∧ True)) (st' := (⟨118, [(7, [], .v (.c (.ptr 7 0))), (9, [], .v (.c (.ptr 9 0))), (17, [], .v (.c (.p .bool ret99v.1))), (18, [], .v (.c (.p (.int .i64) ret99v.2))), (106, [], .v (.c (.p .bool (!decide (a.2.1 = b.2.1)))))], [(7, [], .box [.p (.int .i64) ret21v.1.1, .p (.int .i64) ret21v.1.2.1, .p (.sl (.sl (.int .i64))) ret21v.1.2.2.1, .p (.int .i64) ret21v.1.2.2.2.1, .p (.int .u32) ret21v.1.2.2.2.2]), (9, [], .box [.p (.int .i64) ret26v.1.1, .p (.int .i64) ret26v.1.2.1, .p (.sl (.sl (.int .i64))) ret26v.1.2.2.1, .p (.int .i64) ret26v.1.2.2.2.1, .p (.int .u32) ret26v.1.2.2.2.2])]⟩ : St)) (by kernel_rfl) ⟨trivial, trivial, trivial, trivial, trivial, trivial⟩ ?_
        refine awl_nil ?_
        refine thenQ_n ?_
        refine aw_cond (b := (!decide (a.2.1 = b.2.1))) (by kernel_rfl) (fun hb => ?_) (fun hb => ?_)
        · have h := h.1 hb
          refine aw_seq ?_
          refine aw_region ?_
          refine awl_runp 3 [6] [] (ob := (True ∧ True ∧ True ∧ True)) (st' := (⟨118, [(6, [], .v (.c (.p .bool (!decide (ret99v.2 = (0 : Int))))))], []⟩ : St)) (by kernel_rfl) ⟨trivial, trivial, trivial, trivial⟩ ?_
          refine awl_nil ?_
          refine thenQ_n ?_
          refine aw_ret ?_
          refine thenQ_r ?_
          exact retQ_r (σ := Bool) (R := (fun y => [toV1 .bool y])) (ob := (True ∧ True)) (!decide (ret99v.2 = (0 : Int))) (by kernel_rfl) ⟨trivial, trivial⟩ h
        · have h := h.2 hb
          refine aw_skip ?_
          refine thenQ_n ?_
          refine aw_seq ?_
          refine aw_region ?_
          refine awl_runp 6 [111, 112, 113, 114] [] (ob := (True ∧ True ∧ True ∧ ((decide (ret99v.2 = (0 : Int))) = true → True) ∧ ((decide (ret99v.2 = (0 : Int))) = true → True) ∧ ((decide (ret99v.2 = (0 : Int))) = true → True) ∧ True)) (st' := (⟨118, [(111, [], .v (.c (.p .bool (decide (ret99v.2 = (0 : Int)))))), (112, [(111, true)], .v (.c (.p .bool ret99v.1))), (113, [(111, true)], .v (.agg [.p (.int .i64) ret21v.1.1, .p (.int .i64) ret21v.1.2.1, .p (.sl (.sl (.int .i64))) ret21v.1.2.2.1, .p (.int .i64) ret21v.1.2.2.2.1, .p (.int .u32) ret21v.1.2.2.2.2])), (114, [(111, true)], .v (.agg [.p (.int .i64) ret26v.1.1, .p (.int .i64) ret26v.1.2.1, .p (.sl (.sl (.int .i64))) ret26v.1.2.2.1, .p (.int .i64) ret26v.1.2.2.2.1, .p (.int .u32) ret26v.1.2.2.2.2]))], []⟩ : St)) (by kernel_rfl) ⟨trivial, trivial, trivial, (fun _ => trivial), (fun _ => trivial), (fun _ => trivial), trivial⟩ ?_
          refine awl_callk (p := [(111, true)]) (l := [toV1 (.pr (.int .i64) (.pr (.int .i64) (.pr (.sl (.sl (.int .i64))) (.pr (.int .i64) (.int .u32))))) ret21v.1, toV1 (.pr (.int .i64) (.pr (.int .i64) (.pr (.sl (.sl (.int .i64))) (.pr (.int .i64) (.int .u32))))) ret26v.1]) (cl := []) false [.d (.pr (.int .i64) (.pr (.int .i64) (.pr (.sl (.sl (.int .i64))) (.pr (.int .i64) (.int .u32))))), .d (.pr (.int .i64) (.pr (.int .i64) (.pr (.sl (.sl (.int .i64))) (.pr (.int .i64) (.int .u32)))))] [111, 112, 115] [] (fun (ret115v : Bool) => K ((decide (ret99v.2 = (0 : Int))) && (ret99v.1 == ret115v))) (fun ret115v => [toV1 .bool ret115v]) (fun ret115v => (⟨118, [(111, [], .v (.c (.p .bool (decide (ret99v.2 = (0 : Int)))))), (112, [(111, true)], .v (.c (.p .bool ret99v.1))), (115, [(111, true)], .v (.c (.p .bool ret115v)))], []⟩ : St)) (by kernel_rfl) rfl (by kernel_rfl) rfl (by kernel_rfl) Try.call28 (by kernel_rfl) (fun ret115v => by kernel_rfl) (fun e => by cases e) (fun hg => link28 ret21v.1 ret26v.1 _ (by have := gcall_T h (show (decide (ret99v.2 = (0 : Int))) = true from hg); exact this)) (fun hg => ⟨false, by have := gcall_F h (show (decide (ret99v.2 = (0 : Int))) = false from hg); exact this⟩) (fun ret115v h => ?_)
          have h : K ((decide (ret99v.2 = (0 : Int))) && (ret99v.1 == ret115v)) := h
          refine awl_runp 3 [6] [] (ob := (((decide (ret99v.2 = (0 : Int))) = true → True) ∧ True ∧ True ∧ True)) (st' := (⟨118, [(6, [], .v (.c (.p .bool ((decide (ret99v.2 = (0 : Int))) && (ret99v.1 == ret115v)))))], []⟩ : St)) (by kernel_rfl) ⟨(fun _ => trivial), trivial, trivial, trivial⟩ ?_
          refine awl_nil ?_
          refine thenQ_n ?_
          refine aw_ret ?_
          exact retQ_r (σ := Bool) (R := (fun y => [toV1 .bool y])) (ob := (True ∧ True)) ((decide (ret99v.2 = (0 : Int))) && (ret99v.1 == ret115v)) (by kernel_rfl) ⟨trivial, trivial⟩ h
      · refine aw_cond (b := ret70v) (by kernel_rfl) (fun hb => ?_) (fun hb => ?_)
        · have h := h.1 hb
          refine aw_seq ?_
          refine aw_region ?_
          refine awl_runp 2 [2, 3, 4, 7, 9, 72, 73] [3, 4, 7, 9] (ob := (True ∧ True ∧ True)) (st' := (⟨118, [(2, [], .v (.c (.p (.sl (.int .i64)) w))), (3, [], .v (.c (.ptr 3 0))), (4, [], .v (.c (.ptr 4 0))), (7, [], .v (.c (.ptr 7 0))), (9, [], .v (.c (.ptr 9 0))), (72, [], .v (.agg [.p (.int .i64) a.1, .p (.int .i64) a.2.1, .p (.sl (.sl (.int .i64))) a.2.2.1, .p (.int .i64) a.2.2.2.1, .p (.int .u32) a.2.2.2.2])), (73, [], .v (.c (.p (.sl (.int .i64)) w)))], [(3, [], .box [.p (.int .i64) a.1, .p (.int .i64) a.2.1, .p (.sl (.sl (.int .i64))) a.2.2.1, .p (.int .i64) a.2.2.2.1, .p (.int .u32) a.2.2.2.2]), (4, [], .box [.p (.int .i64) b.1, .p (.int .i64) b.2.1, .p (.sl (.sl (.int .i64))) b.2.2.1, .p (.int .i64) b.2.2.2.1, .p (.int .u32) b.2.2.2.2]), (7, [], .box [.p (.int .i64) ret21v.1.1, .p (.int .i64) ret21v.1.2.1, .p (.sl (.sl (.int .i64))) ret21v.1.2.2.1, .p (.int .i64) ret21v.1.2.2.2.1, .p (.int .u32) ret21v.1.2.2.2.2]), (9, [], .box [.p (.int .i64) ret26v.1.1, .p (.int .i64) ret26v.1.2.1, .p (.sl (.sl (.int .i64))) ret26v.1.2.2.1, .p (.int .i64) ret26v.1.2.2.2.1, .p (.int .u32) ret26v.1.2.2.2.2])]⟩ : St)) (by kernel_rfl) ⟨trivial, trivial, trivial⟩ ?_
          refine awl_callk (p := []) (l := [toV1 (.pr (.int .i64) (.pr (.int .i64) (.pr (.sl (.sl (.int .i64))) (.pr (.int .i64) (.int .u32))))) a, toV1 (.sl (.int .i64)) w]) (cl := []) false [.d (.pr (.int .i64) (.pr (.int .i64) (.pr (.sl (.sl (.int .i64))) (.pr (.int .i64) (.int .u32))))), .d (.sl (.int .i64))] [2, 3, 4, 7, 9, 74] [3, 4, 7, 9] (fun (ret74v : Int × Bool × Int) => VC15 ret21v.1 w (fun (ret81v : Int × Bool × Int) => (((((!decide (ret74v.2.2 = (0 : Int))) || (!decide (ret81v.2.2 = (0 : Int)))) || (ret74v.2.1 != ret81v.2.1)) = true → K false) ∧ ((((!decide (ret74v.2.2 = (0 : Int))) || (!decide (ret81v.2.2 = (0 : Int)))) || (ret74v.2.1 != ret81v.2.1)) = false → VC8_k1 a b K ret21v ret26v)))) (fun ret74v => [toV1 (.int .i64) ret74v.1, toV1 .bool ret74v.2.1, toV1 (.int .i64) ret74v.2.2]) (fun ret74v => (⟨118, [(2, [], .v (.c (.p (.sl (.int .i64)) w))), (3, [], .v (.c (.ptr 3 0))), (4, [], .v (.c (.ptr 4 0))), (7, [], .v (.c (.ptr 7 0))), (9, [], .v (.c (.ptr 9 0))), (74, [], .tup [.c (.p (.int .i64) ret74v.1), .c (.p .bool ret74v.2.1), .c (.p (.int .i64) ret74v.2.2)])], [(3, [], .box [.p (.int .i64) a.1, .p (.int .i64) a.2.1, .p (.sl (.sl (.int .i64))) a.2.2.1, .p (.int .i64) a.2.2.2.1, .p (.int .u32) a.2.2.2.2]), (4, [], .box [.p (.int .i64) b.1, .p (.int .i64) b.2.1, .p (.sl (.sl (.int .i64))) b.2.2.1, .p (.int .i64) b.2.2.2.1, .p (.int .u32) b.2.2.2.2]), (7, [], .box [.p (.int .i64) ret21v.1.1, .p (.int .i64) ret21v.1.2.1, .p (.sl (.sl (.int .i64))) ret21v.1.2.2.1, .p (.int .i64) ret21v.1.2.2.2.1, .p (.int .u32) ret21v.1.2.2.2.2]), (9, [], .box [.p (.int .i64) ret26v.1.1, .p (.int .i64) ret26v.1.2.1, .p (.sl (.sl (.int .i64))) ret26v.1.2.2.1, .p (.int .i64) ret26v.1.2.2.2.1, .p (.int .u32) ret26v.1.2.2.2.2])]⟩ : St)) (by kernel_rfl) rfl (by kernel_rfl) rfl (by kernel_rfl) Try.call15 (by kernel_rfl) (fun ret74v => by kernel_rfl) (fun e => by cases e) (fun hg => link15 a w _ h) (fun hg => noF hg) (fun ret74v h => ?_)
          have h : VC15 ret21v.1 w (fun (ret81v : Int × Bool × Int) => (((((!decide (ret74v.2.2 = (0 : Int))) || (!decide (ret81v.2.2 = (0 : Int)))) || (ret74v.2.1 != ret81v.2.1)) = true → K false) ∧ ((((!decide (ret74v.2.2 = (0 : Int))) || (!decide (ret81v.2.2 = (0 : Int)))) || (ret74v.2.1 != ret81v.2.1)) = false → VC8_k1 a b K ret21v ret26v))) := h
          refine awl_runp 7 [2, 3, 4, 7, 9, 12, 13] [3, 4, 7, 9] (ob := (True ∧ True ∧ True ∧ True ∧ True ∧ True ∧ True ∧ True)) (st' := (⟨118, [(2, [], .v (.c (.p (.sl (.int .i64)) w))), (3, [], .v (.c (.ptr 3 0))), (4, [], .v (.c (.ptr 4 0))), (7, [], .v (.c (.ptr 7 0))), (9, [], .v (.c (.ptr 9 0))), (12, [], .v (.c (.p .bool ret74v.2.1))), (13, [], .v (.c (.p (.int .i64) ret74v.2.2)))], [(3, [], .box [.p (.int .i64) a.1, .p (.int .i64) a.2.1, .p (.sl (.sl (.int .i64))) a.2.2.1, .p (.int .i64) a.2.2.2.1, .p (.int .u32) a.2.2.2.2]), (4, [], .box [.p (.int .i64) b.1, .p (.int .i64) b.2.1, .p (.sl (.sl (.int .i64))) b.2.2.1, .p (.int .i64) b.2.2.2.1, .p (.int .u32) b.2.2.2.2]), (7, [], .box [.p (.int .i64) ret21v.1.1, .p (.int .i64) ret21v.1.2.1, .p (.sl (.sl (.int .i64))) ret21v.1.2.2.1, .p (.int .i64) ret21v.1.2.2.2.1, .p (.int .u32) ret21v.1.2.2.2.2]), (9, [], .box [.p (.int .i64) ret26v.1.1, .p (.int .i64) ret26v.1.2.1, .p (.sl (.sl (.int .i64))) ret26v.1.2.2.1, .p (.int .i64) ret26v.1.2.2.2.1, .p (.int .u32) ret26v.1.2.2.2.2])]⟩ : St)) (by kernel_rfl) ⟨trivial, trivial, trivial, trivial, trivial, trivial, trivial, trivial⟩ ?_
          refine awl_nil ?_
          refine thenQ_n ?_
          refine aw_seq ?_
          refine aw_region ?_
          refine awl_runp 2 [3, 4, 7, 9, 12, 13, 79, 80] [3, 4, 7, 9] (ob := (True ∧ True ∧ True)) (st' := (⟨118, [(3, [], .v (.c (.ptr 3 0))), (4, [], .v (.c (.ptr 4 0))), (7, [], .v (.c (.ptr 7 0))), (9, [], .v (.c (.ptr 9 0))), (12, [], .v (.c (.p .bool ret74v.2.1))), (13, [], .v (.c (.p (.int .i64) ret74v.2.2))), (79, [], .v (.agg [.p (.int .i64) ret21v.1.1, .p (.int .i64) ret21v.1.2.1, .p (.sl (.sl (.int .i64))) ret21v.1.2.2.1, .p (.int .i64) ret21v.1.2.2.2.1, .p (.int .u32) ret21v.1.2.2.2.2])), (80, [], .v (.c (.p (.sl (.int .i64)) w)))], [(3, [], .box [.p (.int .i64) a.1, .p (.int .i64) a.2.1, .p (.sl (.sl (.int .i64))) a.2.2.1, .p (.int .i64) a.2.2.2.1, .p (.int .u32) a.2.2.2.2]), (4, [], .box [.p (.int .i64) b.1, .p (.int .i64) b.2.1, .p (.sl (.sl (.int .i64))) b.2.2.1, .p (.int .i64) b.2.2.2.1, .p (.int .u32) b.2.2.2.2]), (7, [], .box [.p (.int .i64) ret21v.1.1, .p (.int .i64) ret21v.1.2.1, .p (.sl (.sl (.int .i64))) ret21v.1.2.2.1, .p (.int .i64) ret21v.1.2.2.2.1, .p (.int .u32) ret21v.1.2.2.2.2]), (9, [], .box [.p (.int .i64) ret26v.1.1, .p (.int .i64) ret26v.1.2.1, .p (.sl (.sl (.int .i64))) ret26v.1.2.2.1, .p (.int .i64) ret26v.1.2.2.2.1, .p (.int .u32) ret26v.1.2.2.2.2])]⟩ : St)) (by kernel_rfl) ⟨trivial, trivial, trivial⟩ ?_
          refine awl_callk (p := []) (l := [toV1 (.pr (.int .i64) (.pr (.int .i64) (.pr (.sl (.sl (.int .i64))) (.pr (.int .i64) (.int .u32))))) ret21v.1, toV1 (.sl (.int .i64)) w]) (cl := []) false [.d (.pr (.int .i64) (.pr (.int .i64) (.pr (.sl (.sl (.int .i64))) (.pr (.int .i64) (.int .u32))))), .d (.sl (.int .i64))] [3, 4, 7, 9, 12, 13, 81] [3, 4, 7, 9] (fun (ret81v : Int × Bool × Int) => (((((!decide (ret74v.2.2 = (0 : Int))) || (!decide (ret81v.2.2 = (0 : Int)))) || (ret74v.2.1 != ret81v.2.1)) = true → K false) ∧ ((((!decide (ret74v.2.2 = (0 : Int))) || (!decide (ret81v.2.2 = (0 : Int)))) || (ret74v.2.1 != ret81v.2.1)) = false → VC8_k1 a b K ret21v ret26v))) (fun ret81v => [toV1 (.int .i64) ret81v.1, toV1 .bool ret81v.2.1, toV1 (.int .i64) ret81v.2.2]) (fun ret81v => (⟨118, [(3, [], .v (.c (.ptr 3 0))), (4, [], .v (.c (.ptr 4 0))), (7, [], .v (.c (.ptr 7 0))), (9, [], .v (.c (.ptr 9 0))), (12, [], .v (.c (.p .bool ret74v.2.1))), (13, [], .v (.c (.p (.int .i64) ret74v.2.2))), (81, [], .tup [.c (.p (.int .i64) ret81v.1), .c (.p .bool ret81v.2.1), .c (.p (.int .i64) ret81v.2.2)])], [(3, [], .box [.p (.int .i64) a.1, .p (.int .i64) a.2.1, .p (.sl (.sl (.int .i64))) a.2.2.1, .p (.int .i64) a.2.2.2.1, .p (.int .u32) a.2.2.2.2]), (4, [], .box [.p (.int .i64) b.1, .p (.int .i64) b.2.1, .p (.sl (.sl (.int .i64))) b.2.2.1, .p (.int .i64) b.2.2.2.1, .p (.int .u32) b.2.2.2.2]), (7, [], .box [.p (.int .i64) ret21v.1.1, .p (.int .i64) ret21v.1.2.1, .p (.sl (.sl (.int .i64))) ret21v.1.2.2.1, .p (.int .i64) ret21v.1.2.2.2.1, .p (.int .u32) ret21v.1.2.2.2.2]), (9, [], .box [.p (.int .i64) ret26v.1.1, .p (.int .i64) ret26v.1.2.1, .p (.sl (.sl (.int .i64))) ret26v.1.2.2.1, .p (.int .i64) ret26v.1.2.2.2.1, .p (.int .u32) ret26v.1.2.2.2.2])]⟩ : St)) (by kernel_rfl) rfl (by kernel_rfl) rfl (by kernel_rfl) Try.call15 (by kernel_rfl) (fun ret81v => by kernel_rfl) (fun e => by cases e) (fun hg => link15 ret21v.1 w _ h) (fun hg => noF hg) (fun ret81v h => ?_)
          have h : (((((!decide (ret74v.2.2 = (0 : Int))) || (!decide (ret81v.2.2 = (0 : Int)))) || (ret74v.2.1 != ret81v.2.1)) = true → K false) ∧ ((((!decide (ret74v.2.2 = (0 : Int))) || (!decide (ret81v.2.2 = (0 : Int)))) || (ret74v.2.1 != ret81v.2.1)) = false → VC8_k1 a b K ret21v ret26v)) := h
          refine awl_runp 7 [3, 4, 7, 9, 12, 13, 15, 16] [3, 4, 7, 9] (ob := (True ∧ True ∧ True ∧ True ∧ True ∧ True ∧ True ∧ True)) (st' := (⟨118, [(3, [], .v (.c (.ptr 3 0))), (4, [], .v (.c (.ptr 4 0))), (7, [], .v (.c (.ptr 7 0))), (9, [], .v (.c (.ptr 9 0))), (12, [], .v (.c (.p .bool ret74v.2.1))), (13, [], .v (.c (.p (.int .i64) ret74v.2.2))), (15, [], .v (.c (.p .bool ret81v.2.1))), (16, [], .v (.c (.p (.int .i64) ret81v.2.2)))], [(3, [], .box [.p (.int .i64) a.1, .p (.int .i64) a.2.1, .p (.sl (.sl (.int .i64))) a.2.2.1, .p (.int .i64) a.2.2.2.1, .p (.int .u32) a.2.2.2.2]), (4, [], .box [.p (.int .i64) b.1, .p (.int .i64) b.2.1, .p (.sl (.sl (.int .i64))) b.2.2.1, .p (.int .i64) b.2.2.2.1, .p (.int .u32) b.2.2.2.2]), (7, [], .box [.p (.int .i64) ret21v.1.1, .p (.int .i64) ret21v.1.2.1, .p (.sl (.sl (.int .i64))) ret21v.1.2.2.1, .p (.int .i64) ret21v.1.2.2.2.1, .p (.int .u32) ret21v.1.2.2.2.2]), (9, [], .box [.p (.int .i64) ret26v.1.1, .p (.int .i64) ret26v.1.2.1, .p (.sl (.sl (.int .i64))) ret26v.1.2.2.1, .p (.int .i64) ret26v.1.2.2.2.1, .p (.int .u32) ret26v.1.2.2.2.2])]⟩ : St)) (by kernel_rfl) ⟨trivial, trivial, trivial, trivial, trivial, trivial, trivial, trivial⟩ ?_
          refine awl_nil ?_
          refine thenQ_n ?_
          refine aw_seq ?_
          refine aw_region ?_
          refine awl_runp 11 [3, 4, 7, 9, 95] [3, 4, 7, 9] (ob := (True ∧ True ∧ True ∧ ((!decide (ret74v.2.2 = (0 : Int))) = false → True) ∧ ((!decide (ret74v.2.2 = (0 : Int))) = false → True) ∧ True ∧ True ∧ (((!decide (ret74v.2.2 = (0 : Int))) || (!decide (ret81v.2.2 = (0 : Int)))) = false → True) ∧ (((!decide (ret74v.2.2 = (0 : Int))) || (!decide (ret81v.2.2 = (0 : Int)))) = false → True) ∧ (((!decide (ret74v.2.2 = (0 : Int))) || (!decide (ret81v.2.2 = (0 : Int)))) = false → True) ∧ True ∧ True)) (st' := (⟨118, [(3, [], .v (.c (.ptr 3 0))), (4, [], .v (.c (.ptr 4 0))), (7, [], .v (.c (.ptr 7 0))), (9, [], .v (.c (.ptr 9 0))), (95, [], .v (.c (.p .bool (((!decide (ret74v.2.2 = (0 : Int))) || (!decide (ret81v.2.2 = (0 : Int)))) || (ret74v.2.1 != ret81v.2.1)))))], [(3, [], .box [.p (.int .i64) a.1, .p (.int .i64) a.2.1, .p (.sl (.sl (.int .i64))) a.2.2.1, .p (.int .i64) a.2.2.2.1, .p (.int .u32) a.2.2.2.2]), (4, [], .box [.p (.int .i64) b.1, .p (.int .i64) b.2.1, .p (.sl (.sl (.int .i64))) b.2.2.1, .p (.int .i64) b.2.2.2.1, .p (.int .u32) b.2.2.2.2]), (7, [], .box [.p (.int .i64) ret21v.1.1, .p (.int .i64) ret21v.1.2.1, .p (.sl (.sl (.int .i64))) ret21v.1.2.2.1, .p (.int .i64) ret21v.1.2.2.2.1, .p (.int .u32) ret21v.1.2.2.2.2]), (9, [], .box [.p (.int .i64) ret26v.1.1, .p (.int .i64) ret26v.1.2.1, .p (.sl (.sl (.int .i64))) ret26v.1.2.2.1, .p (.int .i64) ret26v.1.2.2.2.1, .p (.int .u32) ret26v.1.2.2.2.2])]⟩ : St)) (by kernel_rfl) ⟨trivial, trivial, trivial, (fun _ => trivial), (fun _ => trivial), trivial, trivial, (fun _ => trivial), (fun _ => trivial), (fun _ => trivial), trivial, trivial⟩ ?_
          refine awl_nil ?_
          refine thenQ_n ?_
          refine aw_cond (b := (((!decide (ret74v.2.2 = (0 : Int))) || (!decide (ret81v.2.2 = (0 : Int)))) || (ret74v.2.1 != ret81v.2.1))) (by kernel_rfl) (fun hb => ?_) (fun hb => ?_)
          · have h := h.1 hb
            refine aw_seq ?_
            refine aw_region ?_
            refine awl_runp 1 [6] [] (ob := (True ∧ True)) (st' := (⟨118, [(6, [], .v (.c (.p .bool false)))], []⟩ : St)) (by kernel_rfl) ⟨trivial, trivial⟩ ?_
            refine awl_nil ?_
            refine thenQ_n ?_
            refine aw_ret ?_
            refine thenQ_r ?_
            exact retQ_r (σ := Bool) (R := (fun y => [toV1 .bool y])) (ob := (True ∧ True)) false (by kernel_rfl) ⟨trivial, trivial⟩ h
          · have h := h.2 hb
            refine aw_conv [.prune [3, 4, 7, 9] [3, 4, 7, 9]] (st' := (⟨118, [(3, [], .v (.c (.ptr 3 0))), (4, [], .v (.c (.ptr 4 0))), (7, [], .v (.c (.ptr 7 0))), (9, [], .v (.c (.ptr 9 0)))], [(3, [], .box [.p (.int .i64) a.1, .p (.int .i64) a.2.1, .p (.sl (.sl (.int .i64))) a.2.2.1, .p (.int .i64) a.2.2.2.1, .p (.int .u32) a.2.2.2.2]), (4, [], .box [.p (.int .i64) b.1, .p (.int .i64) b.2.1, .p (.sl (.sl (.int .i64))) b.2.2.1, .p (.int .i64) b.2.2.2.1, .p (.int .u32) b.2.2.2.2]), (7, [], .box [.p (.int .i64) ret21v.1.1, .p (.int .i64) ret21v.1.2.1, .p (.sl (.sl (.int .i64))) ret21v.1.2.2.1, .p (.int .i64) ret21v.1.2.2.2.1, .p (.int .u32) ret21v.1.2.2.2.2]), (9, [], .box [.p (.int .i64) ret26v.1.1, .p (.int .i64) ret26v.1.2.1, .p (.sl (.sl (.int .i64))) ret26v.1.2.2.1, .p (.int .i64) ret26v.1.2.2.2.1, .p (.int .u32) ret26v.1.2.2.2.2])]⟩ : St)) (by kernel_rfl) ?_
            refine aw_skip ?_
            exact rest1 () h
        · have h := h.2 hb
          refine aw_conv [.prune [3, 4, 7, 9] [3, 4, 7, 9]] (st' := (⟨118, [(3, [], .v (.c (.ptr 3 0))), (4, [], .v (.c (.ptr 4 0))), (7, [], .v (.c (.ptr 7 0))), (9, [], .v (.c (.ptr 9 0)))], [(3, [], .box [.p (.int .i64) a.1, .p (.int .i64) a.2.1, .p (.sl (.sl (.int .i64))) a.2.2.1, .p (.int .i64) a.2.2.2.1, .p (.int .u32) a.2.2.2.2]), (4, [], .box [.p (.int .i64) b.1, .p (.int .i64) b.2.1, .p (.sl (.sl (.int .i64))) b.2.2.1, .p (.int .i64) b.2.2.2.1, .p (.int .u32) b.2.2.2.2]), (7, [], .box [.p (.int .i64) ret21v.1.1, .p (.int .i64) ret21v.1.2.1, .p (.sl (.sl (.int .i64))) ret21v.1.2.2.1, .p (.int .i64) ret21v.1.2.2.2.1, .p (.int .u32) ret21v.1.2.2.2.2]), (9, [], .box [.p (.int .i64) ret26v.1.1, .p (.int .i64) ret26v.1.2.1, .p (.sl (.sl (.int .i64))) ret26v.1.2.2.1, .p (.int .i64) ret26v.1.2.2.2.1, .p (.int .u32) ret26v.1.2.2.2.2])]⟩ : St)) (by kernel_rfl) ?_
          refine aw_skip ?_
          exact rest1 () h

end Dec
