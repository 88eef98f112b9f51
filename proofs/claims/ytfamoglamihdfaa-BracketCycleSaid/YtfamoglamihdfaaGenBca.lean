/-
  Printed by dec2.py: of each function its plain demand, and that the demand gives the contract.
-/
import Derived.Test.YtfamoglamihdfaaProg
import Derived.Test.YtfamoglamihdfaaDecT
set_option linter.unusedVariables false
set_option linter.unusedSimpArgs false
set_option maxRecDepth 100000
namespace Dec
open Go Go.RowKit Go.Proofs

-- coppicer/bracket.height
def VC43 (openv : Bool) (K : Int → Prop) : Prop :=
  ((openv = true → K (1 : Int)) ∧ (openv = false → K (-1 : Int)))

set_option maxHeartbeats 4000000 in
theorem link43 (openv : Bool) (K : Int → Prop) (h : VC43 openv K) : ACalls Try.prog 43 [toV1 .bool openv] (fun res => ∃ y, res = (fun y => [toV1 (.int .i64) y]) y ∧ K y) := by
  refine acalls_of_aw [(.int .i64)] [.t 2] Try.func43 rfl rfl rfl ?_
  unfold VC43 at h
  refine aw_seq ?_
  refine aw_region ?_
  refine awl_runp 1 [0] [] (ob := (True ∧ True)) (st' := (⟨4, [(0, [], .v (.c (.p .bool openv)))], []⟩ : St)) (by kernel_rfl) ⟨trivial, trivial⟩ ?_
  refine awl_nil ?_
  refine thenQ_n ?_
  refine aw_seq ?_
  refine aw_seq ?_
  refine aw_region ?_
  refine awl_runp 1 [3] [] (ob := (True ∧ True)) (st' := (⟨4, [(3, [], .v (.c (.p .bool openv)))], []⟩ : St)) (by kernel_rfl) ⟨trivial, trivial⟩ ?_
  refine awl_nil ?_
  refine thenQ_n ?_
  refine aw_cond (b := openv) (by kernel_rfl) (fun hb => ?_) (fun hb => ?_)
  · have h := h.1 hb
    refine aw_seq ?_
    refine aw_region ?_
    refine awl_runp 1 [2] [] (ob := (True ∧ True)) (st' := (⟨4, [(2, [], .v (.c (.p (.int .i64) (1 : Int))))], []⟩ : St)) (by kernel_rfl) ⟨trivial, trivial⟩ ?_
    refine awl_nil ?_
    refine thenQ_n ?_
    refine aw_ret ?_
    refine thenQ_r ?_
    exact retQ_r (σ := Int) (R := (fun y => [toV1 (.int .i64) y])) (ob := (True ∧ True)) (1 : Int) (by kernel_rfl) ⟨trivial, trivial⟩ h
  · have h := h.2 hb
    refine aw_skip ?_
    refine thenQ_n ?_
    refine aw_seq ?_
    refine aw_region ?_
    refine awl_runp 1 [2] [] (ob := (True ∧ True)) (st' := (⟨4, [(2, [], .v (.c (.p (.int .i64) (-1 : Int))))], []⟩ : St)) (by kernel_rfl) ⟨trivial, trivial⟩ ?_
    refine awl_nil ?_
    refine thenQ_n ?_
    refine aw_ret ?_
    exact retQ_r (σ := Int) (R := (fun y => [toV1 (.int .i64) y])) (ob := (True ∧ True)) (-1 : Int) (by kernel_rfl) ⟨trivial, trivial⟩ h

-- slices.Grow[[]bool,bool]
def VC67_k1 (K : (List Bool) → Prop) (sv : (List Bool)) : Prop :=
  K sv

def VC67 (n : Int) (K : (List Bool) → Prop) : Prop :=
  (((decide (n < (0 : Int))) = true → False) ∧ ((decide (n < (0 : Int))) = false → (InR ((0 : Int) - (0 : Int)) ∧ InR (n - ((0 : Int) - (0 : Int))) ∧ (((decide ((0 : Int) < (n - ((0 : Int) - (0 : Int))))) = true → ((0 ≤ (0 : Int) ∧ (0 : Int) ≤ (0 : Int)) ∧ (0 < (n - ((0 : Int) - (0 : Int))) ∧ (n - ((0 : Int) - (0 : Int))) ≤ 4294967296) ∧ (0 ≤ (0 : Int) ∧ (0 : Int) ≤ ((List.replicate ((n - ((0 : Int) - (0 : Int)))).toNat false).length : Int)) ∧ VC67_k1 K ((List.replicate ((n - ((0 : Int) - (0 : Int)))).toNat false).take (((0 : Int)).toNat)))) ∧ ((decide ((0 : Int) < (n - ((0 : Int) - (0 : Int))))) = false → VC67_k1 K ([] : List Bool))))))

set_option maxHeartbeats 4000000 in
theorem link67 (n : Int) (K : (List Bool) → Prop) (h : VC67 n K) : ACallsO Try.prog 67 [.c .nils, toV1 (.int .i64) n] 4 .bool K := by
  refine acallsO_of_aw 4 Try.func67 rfl rfl rfl ?_
  unfold VC67 at h
  refine aw_seq ?_
  refine aw_region ?_
  refine awl_runp 1 [0, 1] [] (ob := (True ∧ True)) (st' := (⟨27, [(0, [], .v (.c (.nils))), (1, [], .v (.c (.p (.int .i64) n)))], []⟩ : St)) (by kernel_rfl) ⟨trivial, trivial⟩ ?_
  refine awl_nil ?_
  refine thenQ_n ?_
  refine aw_seq ?_
  refine aw_seq ?_
  refine aw_region ?_
  refine awl_runp 2 [0, 1, 6] [] (ob := (True ∧ True ∧ True)) (st' := (⟨27, [(0, [], .v (.c (.nils))), (1, [], .v (.c (.p (.int .i64) n))), (6, [], .v (.c (.p .bool (decide (n < (0 : Int))))))], []⟩ : St)) (by kernel_rfl) ⟨trivial, trivial, trivial⟩ ?_
  refine awl_nil ?_
  refine thenQ_n ?_
  refine aw_cond (b := (decide (n < (0 : Int)))) (by kernel_rfl) (fun hb => ?_) (fun hb => ?_)
  · have h := h.1 hb
    refine aw_region ?_
    exact h.elim
  · have h := h.2 hb
    refine aw_skip ?_
    refine thenQ_n ?_
    refine aw_seq ?_
    refine aw_seq ?_
    refine aw_region ?_
    obtain ⟨o1, o2, h⟩ := h
    refine awl_runp 8 [0, 1] [] (ob := (True ∧ True ∧ True ∧ True ∧ True ∧ InR ((0 : Int) - (0 : Int)) ∧ InR (n - ((0 : Int) - (0 : Int))) ∧ True ∧ True)) (st' := (⟨27, [(0, [], .v (.c (.nils))), (1, [], .v (.c (.p (.int .i64) (n - ((0 : Int) - (0 : Int))))))], []⟩ : St)) (by kernel_rfl) ⟨trivial, trivial, trivial, trivial, trivial, o1, o2, trivial, trivial⟩ ?_
    refine awl_nil ?_
    refine thenQ_n ?_
    refine aw_seq ?_
    refine aw_region ?_
    refine awl_runp 2 [0, 1, 16] [] (ob := (True ∧ True ∧ True)) (st' := (⟨27, [(0, [], .v (.c (.nils))), (1, [], .v (.c (.p (.int .i64) (n - ((0 : Int) - (0 : Int)))))), (16, [], .v (.c (.p .bool (decide ((0 : Int) < (n - ((0 : Int) - (0 : Int))))))))], []⟩ : St)) (by kernel_rfl) ⟨trivial, trivial, trivial⟩ ?_
    refine awl_nil ?_
    refine thenQ_n ?_
    refine withJoin (σ := (List Bool)) (fun s => (⟨27, [(0, [], .v (.c (.own 22)))], [(22, [], .arr 4 .bool s)]⟩ : St)) (fun s => VC67_k1 K s) (fun sv h => ?_) (fun rest1 => ?_)
    · have h : VC67_k1 K sv := h
      unfold VC67_k1 at h
      refine thenQ_n ?_
      refine aw_seq ?_
      refine aw_region ?_
      refine awl_runp 2 [4] [22] (ob := (True ∧ True ∧ True)) (st' := (⟨27, [(4, [], .v (.c (.own 22)))], [(22, [], .arr 4 .bool sv)]⟩ : St)) (by kernel_rfl) ⟨trivial, trivial, trivial⟩ ?_
      refine awl_nil ?_
      refine thenQ_n ?_
      refine aw_ret ?_
      exact ⟨22, _, by kernel_rfl, by kernel_rfl, h⟩
    · refine aw_cond (b := (decide ((0 : Int) < (n - ((0 : Int) - (0 : Int)))))) (by kernel_rfl) (fun hb => ?_) (fun hb => ?_)
      · have h := h.1 hb
        refine aw_region ?_
        obtain ⟨o1, o2, o3, h⟩ := h
        refine awl_runp 10 [0] [22] (ob := (True ∧ True ∧ True ∧ (0 ≤ (0 : Int) ∧ (0 : Int) ≤ (0 : Int)) ∧ True ∧ (0 < (n - ((0 : Int) - (0 : Int))) ∧ (n - ((0 : Int) - (0 : Int))) ≤ 4294967296) ∧ True ∧ True ∧ (0 ≤ (0 : Int) ∧ (0 : Int) ≤ ((List.replicate ((n - ((0 : Int) - (0 : Int)))).toNat false).length : Int)) ∧ True ∧ True)) (st' := (⟨27, [(0, [], .v (.c (.vw 22 0 (((0 : Int)).toNat) 1)))], [(22, [], .arr 4 .bool (List.replicate ((n - ((0 : Int) - (0 : Int)))).toNat false))]⟩ : St)) (by kernel_rfl) ⟨trivial, trivial, trivial, o1, trivial, o2, trivial, trivial, o3, trivial, trivial⟩ ?_
        refine awl_conv [.cut 0 22] (st' := (⟨27, [(0, [], .v (.c (.own 22)))], [(22, [], .arr 4 .bool ((List.replicate ((n - ((0 : Int) - (0 : Int)))).toNat false).take (((0 : Int)).toNat)))]⟩ : St)) (by kernel_rfl) ?_
        refine awl_nil ?_
        exact rest1 ((List.replicate ((n - ((0 : Int) - (0 : Int)))).toNat false).take (((0 : Int)).toNat)) h
      · have h := h.2 hb
        refine aw_conv [.prune [0] [], .nilOwn 0 5000 4 .bool, .ren 5000 25000, .ren 25000 22] (st' := (⟨27, [(0, [], .v (.c (.own 22)))], [(22, [], .arr 4 .bool ([] : List Bool))]⟩ : St)) (by kernel_rfl) ?_
        refine aw_skip ?_
        exact rest1 ([] : List Bool) h

-- slices.Concat[[]bool,bool]
def VC45_k2 (K : (List Bool) → Prop) (newslice : (List Bool)) : Prop :=
  K newslice

def VC45_l1 (slices : (List (List Bool))) (K : (List Bool) → Prop) (v27 : Int) (newslice : (List Bool)) (X1 : Int × (List Bool) → Prop) : Prop :=
  (((decide (v27 < (slices.length : Int))) = true → (inIdx v27 slices.length ∧ (roomN (newslice.length + (slices.getD (v27).toNat ([] : (List Bool))).length) ∧ (InR (v27 + (1 : Int)) ∧ X1 ((v27 + (1 : Int)), (newslice ++ (slices.getD (v27).toNat ([] : (List Bool))))))))) ∧ ((decide (v27 < (slices.length : Int))) = false → VC45_k2 K newslice))

def VC45_k1 (slices : (List (List Bool))) (K : (List Bool) → Prop) (size : Int) : Prop :=
  VC67 size (fun (ret24v : (List Bool)) => Loop (σ := Int × (List Bool)) (fun s X => VC45_l1 slices K s.1 s.2 X) ((0 : Int), ret24v))

def VC45_l2 (slices : (List (List Bool))) (K : (List Bool) → Prop) (size : Int) (v11 : Int) (X2 : Int × Int → Prop) : Prop :=
  (((decide (v11 < (slices.length : Int))) = true → (inIdx v11 slices.length ∧ (InR (size + ((slices.getD (v11).toNat ([] : (List Bool))).length : Int)) ∧ (((decide ((size + ((slices.getD (v11).toNat ([] : (List Bool))).length : Int)) < (0 : Int))) = true → False) ∧ ((decide ((size + ((slices.getD (v11).toNat ([] : (List Bool))).length : Int)) < (0 : Int))) = false → (InR (v11 + (1 : Int)) ∧ X2 ((size + ((slices.getD (v11).toNat ([] : (List Bool))).length : Int)), (v11 + (1 : Int))))))))) ∧ ((decide (v11 < (slices.length : Int))) = false → VC45_k1 slices K size))

def VC45 (slices : (List (List Bool))) (K : (List Bool) → Prop) : Prop :=
  Loop (σ := Int × Int) (fun s X => VC45_l2 slices K s.1 s.2 X) ((0 : Int), (0 : Int))

set_option maxHeartbeats 4000000 in
theorem link45 (slices : (List (List Bool))) (K : (List Bool) → Prop) (h : VC45 slices K) : ACallsO Try.prog 45 [toV1 (.sl (.sl .bool)) slices] 4 .bool K := by
  refine acallsO_of_aw 2 Try.func45 rfl rfl rfl ?_
  unfold VC45 at h
  refine aw_seq ?_
  refine aw_region ?_
  refine awl_runp 1 [0] [] (ob := (True ∧ True)) (st' := (⟨36, [(0, [], .v (.c (.p (.sl (.sl .bool)) slices)))], []⟩ : St)) (by kernel_rfl) ⟨trivial, trivial⟩ ?_
  refine awl_nil ?_
  refine thenQ_n ?_
  refine aw_seq ?_
  refine aw_region ?_
  refine awl_runp 1 [0, 3] [] (ob := (True ∧ True)) (st' := (⟨36, [(0, [], .v (.c (.p (.sl (.sl .bool)) slices))), (3, [], .v (.c (.p (.int .i64) (0 : Int))))], []⟩ : St)) (by kernel_rfl) ⟨trivial, trivial⟩ ?_
  refine awl_nil ?_
  refine thenQ_n ?_
  refine aw_seq ?_
  refine aw_seq ?_
  refine aw_region ?_
  refine awl_runp 3 [0, 3, 9, 10, 11] [] (ob := (True ∧ True ∧ True ∧ True)) (st' := (⟨36, [(0, [], .v (.c (.p (.sl (.sl .bool)) slices))), (3, [], .v (.c (.p (.int .i64) (0 : Int)))), (9, [], .v (.c (.p (.sl (.sl .bool)) slices))), (10, [], .v (.c (.p (.int .i64) (slices.length : Int)))), (11, [], .v (.c (.p (.int .i64) (0 : Int))))], []⟩ : St)) (by kernel_rfl) ⟨trivial, trivial, trivial, trivial⟩ ?_
  refine awl_nil ?_
  refine thenQ_n ?_
  refine withJoin (σ := Int) (fun s => (⟨36, [(0, [], .v (.c (.p (.sl (.sl .bool)) slices))), (3, [], .v (.c (.p (.int .i64) s)))], []⟩ : St)) (fun s => VC45_k1 slices K s) (fun size h => ?_) (fun rest2 => ?_)
  · have h : VC45_k1 slices K size := h
    unfold VC45_k1 at h
    refine thenQ_n ?_
    refine aw_seq ?_
    refine aw_region ?_
    refine awl_runp 1 [0, 23] [] (ob := (True ∧ True)) (st' := (⟨36, [(0, [], .v (.c (.p (.sl (.sl .bool)) slices))), (23, [], .v (.c (.p (.int .i64) size)))], []⟩ : St)) (by kernel_rfl) ⟨trivial, trivial⟩ ?_
    refine awl_callOk (e := 4) (t := .bool) (l := [.c .nils, toV1 (.int .i64) size]) (cl := []) false [.nil, .d (.int .i64)] [0, 24] [24] (fun (ret24v : (List Bool)) => Loop (σ := Int × (List Bool)) (fun s X => VC45_l1 slices K s.1 s.2 X) ((0 : Int), ret24v)) (fun ret24v => (⟨36, [(0, [], .v (.c (.p (.sl (.sl .bool)) slices))), (24, [], .v (.c (.own 24)))], [(24, [], .arr 4 .bool ret24v)]⟩ : St)) rfl rfl (by kernel_rfl) rfl (by kernel_rfl) Try.call67 (by kernel_rfl) (fun e => by cases e) (fun ret24v => by kernel_rfl) (link67 size _ h) (fun ret24v h => ?_)
    have h : Loop (σ := Int × (List Bool)) (fun s X => VC45_l1 slices K s.1 s.2 X) ((0 : Int), ret24v) := h
    refine awl_runp 1 [0, 6] [24] (ob := (True ∧ True)) (st' := (⟨36, [(0, [], .v (.c (.p (.sl (.sl .bool)) slices))), (6, [], .v (.c (.own 24)))], [(24, [], .arr 4 .bool ret24v)]⟩ : St)) (by kernel_rfl) ⟨trivial, trivial⟩ ?_
    refine awl_nil ?_
    refine thenQ_n ?_
    refine aw_seq ?_
    refine aw_seq ?_
    refine aw_region ?_
    refine awl_runp 3 [6, 25, 26, 27] [24] (ob := (True ∧ True ∧ True ∧ True)) (st' := (⟨36, [(6, [], .v (.c (.own 24))), (25, [], .v (.c (.p (.sl (.sl .bool)) slices))), (26, [], .v (.c (.p (.int .i64) (slices.length : Int)))), (27, [], .v (.c (.p (.int .i64) (0 : Int))))], [(24, [], .arr 4 .bool ret24v)]⟩ : St)) (by kernel_rfl) ⟨trivial, trivial, trivial, trivial⟩ ?_
    refine awl_nil ?_
    refine thenQ_n ?_
    refine withJoin (σ := (List Bool)) (fun s => (⟨36, [(6, [], .v (.c (.own 24)))], [(24, [], .arr 4 .bool s)]⟩ : St)) (fun s => VC45_k2 K s) (fun newslice h => ?_) (fun rest1 => ?_)
    · have h : VC45_k2 K newslice := h
      unfold VC45_k2 at h
      refine thenQ_n ?_
      refine aw_seq ?_
      refine aw_region ?_
      refine awl_runp 2 [2] [24] (ob := (True ∧ True ∧ True)) (st' := (⟨36, [(2, [], .v (.c (.own 24)))], [(24, [], .arr 4 .bool newslice)]⟩ : St)) (by kernel_rfl) ⟨trivial, trivial, trivial⟩ ?_
      refine awl_nil ?_
      refine thenQ_n ?_
      refine aw_ret ?_
      exact ⟨24, _, by kernel_rfl, by kernel_rfl, h⟩
    · refine aw_block ?_
      refine aw_loop (σ := Int × (List Bool)) (fun s => (⟨36, [(6, [], .v (.c (.own 24))), (25, [], .v (.c (.p (.sl (.sl .bool)) slices))), (26, [], .v (.c (.p (.int .i64) (slices.length : Int)))), (27, [], .v (.c (.p (.int .i64) s.1)))], [(24, [], .arr 4 .bool s.2)]⟩ : St)) (fun s X => VC45_l1 slices K s.1 s.2 X) (s0 := ((0 : Int), ret24v)) (fun s X1 h => ?_) h
      obtain ⟨v27, newslice⟩ := s
      have h : VC45_l1 slices K v27 newslice X1 := h
      unfold VC45_l1 at h
      refine aw_seq ?_
      refine aw_region ?_
      refine awl_runp 1 [6, 25, 26, 27, 28] [24] (ob := (True ∧ True)) (st' := (⟨36, [(6, [], .v (.c (.own 24))), (25, [], .v (.c (.p (.sl (.sl .bool)) slices))), (26, [], .v (.c (.p (.int .i64) (slices.length : Int)))), (27, [], .v (.c (.p (.int .i64) v27))), (28, [], .v (.c (.p .bool (decide (v27 < (slices.length : Int))))))], [(24, [], .arr 4 .bool newslice)]⟩ : St)) (by kernel_rfl) ⟨trivial, trivial⟩ ?_
      refine awl_nil ?_
      refine thenQ_n ?_
      refine aw_seq ?_
      refine aw_cond (b := (decide (v27 < (slices.length : Int)))) (by kernel_rfl) (fun hb => ?_) (fun hb => ?_)
      · have h := h.1 hb
        refine aw_skip ?_
        refine thenQ_n ?_
        refine aw_seq ?_
        refine aw_block ?_
        refine aw_seq ?_
        refine aw_region ?_
        obtain ⟨o1, h⟩ := h
        refine awl_runp 3 [6, 8, 25, 26, 27] [24] (ob := (inIdx v27 slices.length ∧ True ∧ True ∧ True)) (st' := (⟨36, [(6, [], .v (.c (.own 24))), (8, [], .v (.c (.p (.sl .bool) (slices.getD (v27).toNat ([] : (List Bool)))))), (25, [], .v (.c (.p (.sl (.sl .bool)) slices))), (26, [], .v (.c (.p (.int .i64) (slices.length : Int)))), (27, [], .v (.c (.p (.int .i64) v27)))], [(24, [], .arr 4 .bool newslice)]⟩ : St)) (by kernel_rfl) ⟨o1, trivial, trivial, trivial⟩ ?_
        refine awl_nil ?_
        refine thenQ_n ?_
        refine aw_region ?_
        obtain ⟨o1, h⟩ := h
        refine awl_runp 4 [6, 25, 26, 27] [33] (ob := (True ∧ True ∧ roomN (newslice.length + (slices.getD (v27).toNat ([] : (List Bool))).length) ∧ True ∧ True)) (st' := (⟨36, [(6, [], .v (.c (.own 33))), (25, [], .v (.c (.p (.sl (.sl .bool)) slices))), (26, [], .v (.c (.p (.int .i64) (slices.length : Int)))), (27, [], .v (.c (.p (.int .i64) v27)))], [(33, [], .arr 4 .bool (newslice ++ (slices.getD (v27).toNat ([] : (List Bool)))))]⟩ : St)) (by kernel_rfl) ⟨trivial, trivial, o1, trivial, trivial⟩ ?_
        refine awl_nil ?_
        refine blockQ_n ?_
        refine thenQ_n ?_
        refine aw_region ?_
        obtain ⟨o1, h⟩ := h
        refine awl_runp 2 [6, 25, 26, 27] [33] (ob := (InR (v27 + (1 : Int)) ∧ True ∧ True)) (st' := (⟨36, [(6, [], .v (.c (.own 33))), (25, [], .v (.c (.p (.sl (.sl .bool)) slices))), (26, [], .v (.c (.p (.int .i64) (slices.length : Int)))), (27, [], .v (.c (.p (.int .i64) (v27 + (1 : Int)))))], [(33, [], .arr 4 .bool (newslice ++ (slices.getD (v27).toNat ([] : (List Bool)))))]⟩ : St)) (by kernel_rfl) ⟨o1, trivial, trivial⟩ ?_
        refine awl_conv [.ren 33 20033, .ren 20033 24] (st' := (⟨36, [(6, [], .v (.c (.own 24))), (25, [], .v (.c (.p (.sl (.sl .bool)) slices))), (26, [], .v (.c (.p (.int .i64) (slices.length : Int)))), (27, [], .v (.c (.p (.int .i64) (v27 + (1 : Int)))))], [(24, [], .arr 4 .bool (newslice ++ (slices.getD (v27).toNat ([] : (List Bool)))))]⟩ : St)) (by kernel_rfl) ?_
        refine awl_nil ?_
        exact thenQ_n ⟨((v27 + (1 : Int)), (newslice ++ (slices.getD (v27).toNat ([] : (List Bool))))), rfl, h⟩
      · have h := h.2 hb
        refine aw_conv [.prune [6] [24]] (st' := (⟨36, [(6, [], .v (.c (.own 24)))], [(24, [], .arr 4 .bool newslice)]⟩ : St)) (by kernel_rfl) ?_
        refine aw_exit ?_
        refine thenQ_x ?_
        refine thenQ_x ?_
        refine blockQ_hit ?_
        exact rest1 newslice h
  · refine aw_block ?_
    refine aw_loop (σ := Int × Int) (fun s => (⟨36, [(0, [], .v (.c (.p (.sl (.sl .bool)) slices))), (3, [], .v (.c (.p (.int .i64) s.1))), (9, [], .v (.c (.p (.sl (.sl .bool)) slices))), (10, [], .v (.c (.p (.int .i64) (slices.length : Int)))), (11, [], .v (.c (.p (.int .i64) s.2)))], []⟩ : St)) (fun s X => VC45_l2 slices K s.1 s.2 X) (s0 := ((0 : Int), (0 : Int))) (fun s X2 h => ?_) h
    obtain ⟨size, v11⟩ := s
    have h : VC45_l2 slices K size v11 X2 := h
    unfold VC45_l2 at h
    refine aw_seq ?_
    refine aw_region ?_
    refine awl_runp 1 [0, 3, 9, 10, 11, 12] [] (ob := (True ∧ True)) (st' := (⟨36, [(0, [], .v (.c (.p (.sl (.sl .bool)) slices))), (3, [], .v (.c (.p (.int .i64) size))), (9, [], .v (.c (.p (.sl (.sl .bool)) slices))), (10, [], .v (.c (.p (.int .i64) (slices.length : Int)))), (11, [], .v (.c (.p (.int .i64) v11))), (12, [], .v (.c (.p .bool (decide (v11 < (slices.length : Int))))))], []⟩ : St)) (by kernel_rfl) ⟨trivial, trivial⟩ ?_
    refine awl_nil ?_
    refine thenQ_n ?_
    refine aw_seq ?_
    refine aw_cond (b := (decide (v11 < (slices.length : Int)))) (by kernel_rfl) (fun hb => ?_) (fun hb => ?_)
    · have h := h.1 hb
      refine aw_skip ?_
      refine thenQ_n ?_
      refine aw_seq ?_
      refine aw_block ?_
      refine aw_seq ?_
      refine aw_region ?_
      obtain ⟨o1, h⟩ := h
      refine awl_runp 3 [0, 3, 5, 9, 10, 11] [] (ob := (inIdx v11 slices.length ∧ True ∧ True ∧ True)) (st' := (⟨36, [(0, [], .v (.c (.p (.sl (.sl .bool)) slices))), (3, [], .v (.c (.p (.int .i64) size))), (5, [], .v (.c (.p (.sl .bool) (slices.getD (v11).toNat ([] : (List Bool)))))), (9, [], .v (.c (.p (.sl (.sl .bool)) slices))), (10, [], .v (.c (.p (.int .i64) (slices.length : Int)))), (11, [], .v (.c (.p (.int .i64) v11)))], []⟩ : St)) (by kernel_rfl) ⟨o1, trivial, trivial, trivial⟩ ?_
      refine awl_nil ?_
      refine thenQ_n ?_
      refine aw_seq ?_
      refine aw_region ?_
      obtain ⟨o1, h⟩ := h
      refine awl_runp 5 [0, 3, 9, 10, 11] [] (ob := (True ∧ True ∧ True ∧ InR (size + ((slices.getD (v11).toNat ([] : (List Bool))).length : Int)) ∧ True ∧ True)) (st' := (⟨36, [(0, [], .v (.c (.p (.sl (.sl .bool)) slices))), (3, [], .v (.c (.p (.int .i64) (size + ((slices.getD (v11).toNat ([] : (List Bool))).length : Int))))), (9, [], .v (.c (.p (.sl (.sl .bool)) slices))), (10, [], .v (.c (.p (.int .i64) (slices.length : Int)))), (11, [], .v (.c (.p (.int .i64) v11)))], []⟩ : St)) (by kernel_rfl) ⟨trivial, trivial, trivial, o1, trivial, trivial⟩ ?_
      refine awl_nil ?_
      refine thenQ_n ?_
      refine aw_seq ?_
      refine aw_region ?_
      refine awl_runp 2 [0, 3, 9, 10, 11, 20] [] (ob := (True ∧ True ∧ True)) (st' := (⟨36, [(0, [], .v (.c (.p (.sl (.sl .bool)) slices))), (3, [], .v (.c (.p (.int .i64) (size + ((slices.getD (v11).toNat ([] : (List Bool))).length : Int))))), (9, [], .v (.c (.p (.sl (.sl .bool)) slices))), (10, [], .v (.c (.p (.int .i64) (slices.length : Int)))), (11, [], .v (.c (.p (.int .i64) v11))), (20, [], .v (.c (.p .bool (decide ((size + ((slices.getD (v11).toNat ([] : (List Bool))).length : Int)) < (0 : Int))))))], []⟩ : St)) (by kernel_rfl) ⟨trivial, trivial, trivial⟩ ?_
      refine awl_nil ?_
      refine thenQ_n ?_
      refine aw_cond (b := (decide ((size + ((slices.getD (v11).toNat ([] : (List Bool))).length : Int)) < (0 : Int)))) (by kernel_rfl) (fun hb => ?_) (fun hb => ?_)
      · have h := h.1 hb
        refine aw_region ?_
        exact h.elim
      · have h := h.2 hb
        refine aw_skip ?_
        refine blockQ_n ?_
        refine thenQ_n ?_
        refine aw_region ?_
        obtain ⟨o1, h⟩ := h
        refine awl_runp 2 [0, 3, 9, 10, 11] [] (ob := (InR (v11 + (1 : Int)) ∧ True ∧ True)) (st' := (⟨36, [(0, [], .v (.c (.p (.sl (.sl .bool)) slices))), (3, [], .v (.c (.p (.int .i64) (size + ((slices.getD (v11).toNat ([] : (List Bool))).length : Int))))), (9, [], .v (.c (.p (.sl (.sl .bool)) slices))), (10, [], .v (.c (.p (.int .i64) (slices.length : Int)))), (11, [], .v (.c (.p (.int .i64) (v11 + (1 : Int)))))], []⟩ : St)) (by kernel_rfl) ⟨o1, trivial, trivial⟩ ?_
        refine awl_nil ?_
        exact thenQ_n ⟨((size + ((slices.getD (v11).toNat ([] : (List Bool))).length : Int)), (v11 + (1 : Int))), rfl, h⟩
    · have h := h.2 hb
      refine aw_conv [.prune [0, 3] []] (st' := (⟨36, [(0, [], .v (.c (.p (.sl (.sl .bool)) slices))), (3, [], .v (.c (.p (.int .i64) size)))], []⟩ : St)) (by kernel_rfl) ?_
      refine aw_exit ?_
      refine thenQ_x ?_
      refine thenQ_x ?_
      refine blockQ_hit ?_
      exact rest2 size h

-- coppicer/bracket.rises
def VC44_k1 (K : Bool → Prop) : Prop :=
  K true

def VC44_l1 (l : (List Bool)) (K : Bool → Prop) (n : Int) (v8 : Int) (X1 : Int × Int → Prop) : Prop :=
  (((decide (v8 < (l.length : Int))) = true → (inIdx v8 l.length ∧ VC43 (l.getD (v8).toNat false) (fun (ret14v : Int) => (InR (n + ret14v) ∧ (((decide ((n + ret14v) < (1 : Int))) = true → K false) ∧ ((decide ((n + ret14v) < (1 : Int))) = false → (InR (v8 + (1 : Int)) ∧ X1 ((n + ret14v), (v8 + (1 : Int)))))))))) ∧ ((decide (v8 < (l.length : Int))) = false → VC44_k1 K))

def VC44 (l : (List Bool)) (K : Bool → Prop) : Prop :=
  Loop (σ := Int × Int) (fun s X => VC44_l1 l K s.1 s.2 X) ((0 : Int), (0 : Int))

set_option maxHeartbeats 4000000 in
theorem link44 (l : (List Bool)) (K : Bool → Prop) (h : VC44 l K) : ACalls Try.prog 44 [toV1 (.sl .bool) l] (fun res => ∃ y, res = (fun y => [toV1 .bool y]) y ∧ K y) := by
  refine acalls_of_aw [.bool] [.t 2] Try.func44 rfl rfl rfl ?_
  unfold VC44 at h
  refine aw_seq ?_
  refine aw_region ?_
  refine awl_runp 1 [0] [] (ob := (True ∧ True)) (st' := (⟨19, [(0, [], .v (.c (.p (.sl .bool) l)))], []⟩ : St)) (by kernel_rfl) ⟨trivial, trivial⟩ ?_
  refine awl_nil ?_
  refine thenQ_n ?_
  refine aw_seq ?_
  refine aw_region ?_
  refine awl_runp 1 [0, 3] [] (ob := (True ∧ True)) (st' := (⟨19, [(0, [], .v (.c (.p (.sl .bool) l))), (3, [], .v (.c (.p (.int .i64) (0 : Int))))], []⟩ : St)) (by kernel_rfl) ⟨trivial, trivial⟩ ?_
  refine awl_nil ?_
  refine thenQ_n ?_
  refine aw_seq ?_
  refine aw_seq ?_
  refine aw_region ?_
  refine awl_runp 3 [3, 6, 7, 8] [] (ob := (True ∧ True ∧ True ∧ True)) (st' := (⟨19, [(3, [], .v (.c (.p (.int .i64) (0 : Int)))), (6, [], .v (.c (.p (.sl .bool) l))), (7, [], .v (.c (.p (.int .i64) (l.length : Int)))), (8, [], .v (.c (.p (.int .i64) (0 : Int))))], []⟩ : St)) (by kernel_rfl) ⟨trivial, trivial, trivial, trivial⟩ ?_
  refine awl_nil ?_
  refine thenQ_n ?_
  refine withJoin (σ := Unit) (fun s => (⟨19, [], []⟩ : St)) (fun s => VC44_k1 K) (fun s h => ?_) (fun rest1 => ?_)
  · have h : VC44_k1 K := h
    unfold VC44_k1 at h
    refine thenQ_n ?_
    refine aw_seq ?_
    refine aw_region ?_
    refine awl_runp 1 [2] [] (ob := (True ∧ True)) (st' := (⟨19, [(2, [], .v (.c (.p .bool true)))], []⟩ : St)) (by kernel_rfl) ⟨trivial, trivial⟩ ?_
    refine awl_nil ?_
    refine thenQ_n ?_
    refine aw_ret ?_
    exact retQ_r (σ := Bool) (R := (fun y => [toV1 .bool y])) (ob := (True ∧ True)) true (by kernel_rfl) ⟨trivial, trivial⟩ h
  · refine aw_block ?_
    refine aw_loop (σ := Int × Int) (fun s => (⟨19, [(3, [], .v (.c (.p (.int .i64) s.1))), (6, [], .v (.c (.p (.sl .bool) l))), (7, [], .v (.c (.p (.int .i64) (l.length : Int)))), (8, [], .v (.c (.p (.int .i64) s.2)))], []⟩ : St)) (fun s X => VC44_l1 l K s.1 s.2 X) (s0 := ((0 : Int), (0 : Int))) (fun s X1 h => ?_) h
    obtain ⟨n, v8⟩ := s
    have h : VC44_l1 l K n v8 X1 := h
    unfold VC44_l1 at h
    refine aw_seq ?_
    refine aw_region ?_
    refine awl_runp 1 [3, 6, 7, 8, 9] [] (ob := (True ∧ True)) (st' := (⟨19, [(3, [], .v (.c (.p (.int .i64) n))), (6, [], .v (.c (.p (.sl .bool) l))), (7, [], .v (.c (.p (.int .i64) (l.length : Int)))), (8, [], .v (.c (.p (.int .i64) v8))), (9, [], .v (.c (.p .bool (decide (v8 < (l.length : Int))))))], []⟩ : St)) (by kernel_rfl) ⟨trivial, trivial⟩ ?_
    refine awl_nil ?_
    refine thenQ_n ?_
    refine aw_seq ?_
    refine aw_cond (b := (decide (v8 < (l.length : Int)))) (by kernel_rfl) (fun hb => ?_) (fun hb => ?_)
    · have h := h.1 hb
      refine aw_skip ?_
      refine thenQ_n ?_
      refine aw_seq ?_
      refine aw_block ?_
      refine aw_seq ?_
      refine aw_region ?_
      obtain ⟨o1, h⟩ := h
      refine awl_runp 3 [3, 5, 6, 7, 8] [] (ob := (inIdx v8 l.length ∧ True ∧ True ∧ True)) (st' := (⟨19, [(3, [], .v (.c (.p (.int .i64) n))), (5, [], .v (.c (.p .bool (l.getD (v8).toNat false)))), (6, [], .v (.c (.p (.sl .bool) l))), (7, [], .v (.c (.p (.int .i64) (l.length : Int)))), (8, [], .v (.c (.p (.int .i64) v8)))], []⟩ : St)) (by kernel_rfl) ⟨o1, trivial, trivial, trivial⟩ ?_
      refine awl_nil ?_
      refine thenQ_n ?_
      refine aw_seq ?_
      refine aw_region ?_
      refine awl_runp 2 [6, 7, 8, 12, 13] [] (ob := (True ∧ True ∧ True)) (st' := (⟨19, [(6, [], .v (.c (.p (.sl .bool) l))), (7, [], .v (.c (.p (.int .i64) (l.length : Int)))), (8, [], .v (.c (.p (.int .i64) v8))), (12, [], .v (.c (.p (.int .i64) n))), (13, [], .v (.c (.p .bool (l.getD (v8).toNat false))))], []⟩ : St)) (by kernel_rfl) ⟨trivial, trivial, trivial⟩ ?_
      refine awl_callk (p := []) (l := [toV1 .bool (l.getD (v8).toNat false)]) (cl := []) false [.d .bool] [6, 7, 8, 12, 14] [] (fun (ret14v : Int) => (InR (n + ret14v) ∧ (((decide ((n + ret14v) < (1 : Int))) = true → K false) ∧ ((decide ((n + ret14v) < (1 : Int))) = false → (InR (v8 + (1 : Int)) ∧ X1 ((n + ret14v), (v8 + (1 : Int)))))))) (fun ret14v => [toV1 (.int .i64) ret14v]) (fun ret14v => (⟨19, [(6, [], .v (.c (.p (.sl .bool) l))), (7, [], .v (.c (.p (.int .i64) (l.length : Int)))), (8, [], .v (.c (.p (.int .i64) v8))), (12, [], .v (.c (.p (.int .i64) n))), (14, [], .v (.c (.p (.int .i64) ret14v)))], []⟩ : St)) (by kernel_rfl) rfl (by kernel_rfl) rfl (by kernel_rfl) Try.call43 (by kernel_rfl) (fun ret14v => by kernel_rfl) (fun e => by cases e) (fun hg => link43 (l.getD (v8).toNat false) _ h) (fun hg => noF hg) (fun ret14v h => ?_)
      have h : (InR (n + ret14v) ∧ (((decide ((n + ret14v) < (1 : Int))) = true → K false) ∧ ((decide ((n + ret14v) < (1 : Int))) = false → (InR (v8 + (1 : Int)) ∧ X1 ((n + ret14v), (v8 + (1 : Int))))))) := h
      obtain ⟨o1, h⟩ := h
      refine awl_runp 2 [3, 6, 7, 8] [] (ob := (InR (n + ret14v) ∧ True ∧ True)) (st' := (⟨19, [(3, [], .v (.c (.p (.int .i64) (n + ret14v)))), (6, [], .v (.c (.p (.sl .bool) l))), (7, [], .v (.c (.p (.int .i64) (l.length : Int)))), (8, [], .v (.c (.p (.int .i64) v8)))], []⟩ : St)) (by kernel_rfl) ⟨o1, trivial, trivial⟩ ?_
      refine awl_nil ?_
      refine thenQ_n ?_
      refine aw_seq ?_
      refine aw_region ?_
      refine awl_runp 2 [3, 6, 7, 8, 17] [] (ob := (True ∧ True ∧ True)) (st' := (⟨19, [(3, [], .v (.c (.p (.int .i64) (n + ret14v)))), (6, [], .v (.c (.p (.sl .bool) l))), (7, [], .v (.c (.p (.int .i64) (l.length : Int)))), (8, [], .v (.c (.p (.int .i64) v8))), (17, [], .v (.c (.p .bool (decide ((n + ret14v) < (1 : Int))))))], []⟩ : St)) (by kernel_rfl) ⟨trivial, trivial, trivial⟩ ?_
      refine awl_nil ?_
      refine thenQ_n ?_
      refine aw_cond (b := (decide ((n + ret14v) < (1 : Int)))) (by kernel_rfl) (fun hb => ?_) (fun hb => ?_)
      · have h := h.1 hb
        refine aw_seq ?_
        refine aw_region ?_
        refine awl_runp 1 [2] [] (ob := (True ∧ True)) (st' := (⟨19, [(2, [], .v (.c (.p .bool false)))], []⟩ : St)) (by kernel_rfl) ⟨trivial, trivial⟩ ?_
        refine awl_nil ?_
        refine thenQ_n ?_
        refine aw_ret ?_
        refine blockQ_r ?_
        refine thenQ_r ?_
        refine thenQ_r ?_
        refine blockQ_r ?_
        refine thenQ_r ?_
        exact retQ_r (σ := Bool) (R := (fun y => [toV1 .bool y])) (ob := (True ∧ True)) false (by kernel_rfl) ⟨trivial, trivial⟩ h
      · have h := h.2 hb
        refine aw_skip ?_
        refine blockQ_n ?_
        refine thenQ_n ?_
        refine aw_region ?_
        obtain ⟨o1, h⟩ := h
        refine awl_runp 2 [3, 6, 7, 8] [] (ob := (InR (v8 + (1 : Int)) ∧ True ∧ True)) (st' := (⟨19, [(3, [], .v (.c (.p (.int .i64) (n + ret14v)))), (6, [], .v (.c (.p (.sl .bool) l))), (7, [], .v (.c (.p (.int .i64) (l.length : Int)))), (8, [], .v (.c (.p (.int .i64) (v8 + (1 : Int)))))], []⟩ : St)) (by kernel_rfl) ⟨o1, trivial, trivial⟩ ?_
        refine awl_nil ?_
        exact thenQ_n ⟨((n + ret14v), (v8 + (1 : Int))), rfl, h⟩
    · have h := h.2 hb
      refine aw_conv [.prune [] []] (st' := (⟨19, [], []⟩ : St)) (by kernel_rfl) ?_
      refine aw_exit ?_
      refine thenQ_x ?_
      refine thenQ_x ?_
      refine blockQ_hit ?_
      exact rest1 () h

-- coppicer/bracket.Turn
def VC20_k2 (K : Int × Int → Prop) : Prop :=
  K ((0 : Int), (0 : Int))

def VC20_l1 (l : (List Bool)) (K : Int × Int → Prop) (v26 : Int) (X1 : Int → Prop) : Prop :=
  (((decide (v26 < (l.length : Int))) = true → ((0 ≤ v26 ∧ v26 ≤ (l.length : Int)) ∧ (0 ≤ v26 ∧ v26 ≤ (l.length : Int)) ∧ VC45 [(l.drop (v26).toNat), (l.take (v26).toNat)] (fun (ret36v : (List Bool)) => VC44 ret36v (fun (ret37v : Bool) => ((ret37v = true → K (v26, (0 : Int))) ∧ (ret37v = false → (InR (v26 + (1 : Int)) ∧ X1 (v26 + (1 : Int))))))))) ∧ ((decide (v26 < (l.length : Int))) = false → VC20_k2 K))

def VC20_k1 (l : (List Bool)) (K : Int × Int → Prop) (n : Int) : Prop :=
  (((!decide (n = (1 : Int))) = true → K ((0 : Int), (3 : Int))) ∧ ((!decide (n = (1 : Int))) = false → Loop (σ := Int) (fun s X => VC20_l1 l K s X) (0 : Int)))

def VC20_l2 (l : (List Bool)) (K : Int × Int → Prop) (n : Int) (v13 : Int) (X2 : Int × Int → Prop) : Prop :=
  (((decide (v13 < (l.length : Int))) = true → (inIdx v13 l.length ∧ VC43 (l.getD (v13).toNat false) (fun (ret19v : Int) => (InR (n + ret19v) ∧ (InR (v13 + (1 : Int)) ∧ X2 ((n + ret19v), (v13 + (1 : Int)))))))) ∧ ((decide (v13 < (l.length : Int))) = false → VC20_k1 l K n))

def VC20 (l : (List Bool)) (K : Int × Int → Prop) : Prop :=
  (((decide ((60 : Int) < (l.length : Int))) = true → K ((0 : Int), (1 : Int))) ∧ ((decide ((60 : Int) < (l.length : Int))) = false → Loop (σ := Int × Int) (fun s X => VC20_l2 l K s.1 s.2 X) ((0 : Int), (0 : Int))))

set_option maxHeartbeats 4000000 in
theorem link20 (l : (List Bool)) (K : Int × Int → Prop) (h : VC20 l K) : ACalls Try.prog 20 [toV1 (.sl .bool) l] (fun res => ∃ y, res = (fun y => [toV1 (.int .i64) y.1, toV1 (.int .i64) y.2]) y ∧ K y) := by
  refine acalls_of_aw [(.int .i64), (.int .i64)] [.t 2, .t 3] Try.func20 rfl rfl rfl ?_
  unfold VC20 at h
  refine aw_seq ?_
  refine aw_region ?_
  refine awl_runp 2 [0] [] (ob := (True ∧ True ∧ True)) (st' := (⟨40, [(0, [], .v (.c (.p (.sl .bool) l)))], []⟩ : St)) (by kernel_rfl) ⟨trivial, trivial, trivial⟩ ?_
  refine awl_nil ?_
  refine thenQ_n ?_
  refine aw_seq ?_
  refine aw_seq ?_
  refine aw_region ?_
  refine awl_runp 3 [0, 10] [] (ob := (True ∧ True ∧ True ∧ True)) (st' := (⟨40, [(0, [], .v (.c (.p (.sl .bool) l))), (10, [], .v (.c (.p .bool (decide ((60 : Int) < (l.length : Int))))))], []⟩ : St)) (by kernel_rfl) ⟨trivial, trivial, trivial, trivial⟩ ?_
  refine awl_nil ?_
  refine thenQ_n ?_
  refine aw_cond (b := (decide ((60 : Int) < (l.length : Int)))) (by kernel_rfl) (fun hb => ?_) (fun hb => ?_)
  · have h := h.1 hb
    refine aw_seq ?_
    refine aw_region ?_
    refine awl_runp 2 [2, 3] [] (ob := (True ∧ True ∧ True)) (st' := (⟨40, [(2, [], .v (.c (.p (.int .i64) (0 : Int)))), (3, [], .v (.c (.p (.int .i64) (1 : Int))))], []⟩ : St)) (by kernel_rfl) ⟨trivial, trivial, trivial⟩ ?_
    refine awl_nil ?_
    refine thenQ_n ?_
    refine aw_ret ?_
    refine thenQ_r ?_
    exact retQ_r (σ := Int × Int) (R := (fun y => [toV1 (.int .i64) y.1, toV1 (.int .i64) y.2])) (ob := (True ∧ True ∧ True)) ((0 : Int), (1 : Int)) (by kernel_rfl) ⟨trivial, trivial, trivial⟩ h
  · have h := h.2 hb
    refine aw_skip ?_
    refine thenQ_n ?_
    refine aw_seq ?_
    refine aw_region ?_
    refine awl_runp 1 [0, 4] [] (ob := (True ∧ True)) (st' := (⟨40, [(0, [], .v (.c (.p (.sl .bool) l))), (4, [], .v (.c (.p (.int .i64) (0 : Int))))], []⟩ : St)) (by kernel_rfl) ⟨trivial, trivial⟩ ?_
    refine awl_nil ?_
    refine thenQ_n ?_
    refine aw_seq ?_
    refine aw_seq ?_
    refine aw_region ?_
    refine awl_runp 3 [0, 4, 11, 12, 13] [] (ob := (True ∧ True ∧ True ∧ True)) (st' := (⟨40, [(0, [], .v (.c (.p (.sl .bool) l))), (4, [], .v (.c (.p (.int .i64) (0 : Int)))), (11, [], .v (.c (.p (.sl .bool) l))), (12, [], .v (.c (.p (.int .i64) (l.length : Int)))), (13, [], .v (.c (.p (.int .i64) (0 : Int))))], []⟩ : St)) (by kernel_rfl) ⟨trivial, trivial, trivial, trivial⟩ ?_
    refine awl_nil ?_
    refine thenQ_n ?_
    refine withJoin (σ := Int) (fun s => (⟨40, [(0, [], .v (.c (.p (.sl .bool) l))), (4, [], .v (.c (.p (.int .i64) s)))], []⟩ : St)) (fun s => VC20_k1 l K s) (fun n h => ?_) (fun rest2 => ?_)
    · have h : VC20_k1 l K n := h
      unfold VC20_k1 at h
      refine thenQ_n ?_
      refine aw_seq ?_
      refine aw_seq ?_
      refine aw_region ?_
      refine awl_runp 2 [0, 23] [] (ob := (True ∧ True ∧ True)) (st' := (⟨40, [(0, [], .v (.c (.p (.sl .bool) l))), (23, [], .v (.c (.p .bool (!decide (n = (1 : Int))))))], []⟩ : St)) (by kernel_rfl) ⟨trivial, trivial, trivial⟩ ?_
      refine awl_nil ?_
      refine thenQ_n ?_
      refine aw_cond (b := (!decide (n = (1 : Int)))) (by kernel_rfl) (fun hb => ?_) (fun hb => ?_)
      · have h := h.1 hb
        refine aw_seq ?_
        refine aw_region ?_
        refine awl_runp 2 [2, 3] [] (ob := (True ∧ True ∧ True)) (st' := (⟨40, [(2, [], .v (.c (.p (.int .i64) (0 : Int)))), (3, [], .v (.c (.p (.int .i64) (3 : Int))))], []⟩ : St)) (by kernel_rfl) ⟨trivial, trivial, trivial⟩ ?_
        refine awl_nil ?_
        refine thenQ_n ?_
        refine aw_ret ?_
        refine thenQ_r ?_
        exact retQ_r (σ := Int × Int) (R := (fun y => [toV1 (.int .i64) y.1, toV1 (.int .i64) y.2])) (ob := (True ∧ True ∧ True)) ((0 : Int), (3 : Int)) (by kernel_rfl) ⟨trivial, trivial, trivial⟩ h
      · have h := h.2 hb
        refine aw_skip ?_
        refine thenQ_n ?_
        refine aw_seq ?_
        refine aw_seq ?_
        refine aw_region ?_
        refine awl_runp 3 [0, 25, 26] [] (ob := (True ∧ True ∧ True ∧ True)) (st' := (⟨40, [(0, [], .v (.c (.p (.sl .bool) l))), (25, [], .v (.c (.p (.int .i64) (l.length : Int)))), (26, [], .v (.c (.p (.int .i64) (0 : Int))))], []⟩ : St)) (by kernel_rfl) ⟨trivial, trivial, trivial, trivial⟩ ?_
        refine awl_nil ?_
        refine thenQ_n ?_
        refine withJoin (σ := Unit) (fun s => (⟨40, [], []⟩ : St)) (fun s => VC20_k2 K) (fun s h => ?_) (fun rest1 => ?_)
        · have h : VC20_k2 K := h
          unfold VC20_k2 at h
          refine thenQ_n ?_
          refine aw_seq ?_
          refine aw_region ?_
          refine awl_runp 2 [2, 3] [] (ob := (True ∧ True ∧ True)) (st' := (⟨40, [(2, [], .v (.c (.p (.int .i64) (0 : Int)))), (3, [], .v (.c (.p (.int .i64) (0 : Int))))], []⟩ : St)) (by kernel_rfl) ⟨trivial, trivial, trivial⟩ ?_
          refine awl_nil ?_
          refine thenQ_n ?_
          refine aw_ret ?_
          exact retQ_r (σ := Int × Int) (R := (fun y => [toV1 (.int .i64) y.1, toV1 (.int .i64) y.2])) (ob := (True ∧ True ∧ True)) ((0 : Int), (0 : Int)) (by kernel_rfl) ⟨trivial, trivial, trivial⟩ h
        · refine aw_block ?_
          refine aw_loop (σ := Int) (fun s => (⟨40, [(0, [], .v (.c (.p (.sl .bool) l))), (25, [], .v (.c (.p (.int .i64) (l.length : Int)))), (26, [], .v (.c (.p (.int .i64) s)))], []⟩ : St)) (fun s X => VC20_l1 l K s X) (s0 := (0 : Int)) (fun v26 X1 h => ?_) h
          have h : VC20_l1 l K v26 X1 := h
          unfold VC20_l1 at h
          refine aw_seq ?_
          refine aw_region ?_
          refine awl_runp 1 [0, 25, 26, 27] [] (ob := (True ∧ True)) (st' := (⟨40, [(0, [], .v (.c (.p (.sl .bool) l))), (25, [], .v (.c (.p (.int .i64) (l.length : Int)))), (26, [], .v (.c (.p (.int .i64) v26))), (27, [], .v (.c (.p .bool (decide (v26 < (l.length : Int))))))], []⟩ : St)) (by kernel_rfl) ⟨trivial, trivial⟩ ?_
          refine awl_nil ?_
          refine thenQ_n ?_
          refine aw_seq ?_
          refine aw_cond (b := (decide (v26 < (l.length : Int)))) (by kernel_rfl) (fun hb => ?_) (fun hb => ?_)
          · have h := h.1 hb
            refine aw_skip ?_
            refine thenQ_n ?_
            refine aw_seq ?_
            refine aw_block ?_
            refine aw_seq ?_
            refine aw_region ?_
            refine awl_runp 2 [0, 7, 25, 26] [] (ob := (True ∧ True ∧ True)) (st' := (⟨40, [(0, [], .v (.c (.p (.sl .bool) l))), (7, [], .v (.c (.p (.int .i64) v26))), (25, [], .v (.c (.p (.int .i64) (l.length : Int)))), (26, [], .v (.c (.p (.int .i64) v26)))], []⟩ : St)) (by kernel_rfl) ⟨trivial, trivial, trivial⟩ ?_
            refine awl_nil ?_
            refine thenQ_n ?_
            refine aw_seq ?_
            refine awd_begin [] (by kernel_rfl) ?_
            obtain ⟨o1, o2, h⟩ := h
            refine awd_runp (by kernel_rfl) [0, 1, 2, 3, 4, 5] [0, 7, 25, 26, 31, 34] [] (ob := (True ∧ True ∧ (0 ≤ v26 ∧ v26 ≤ (l.length : Int)) ∧ True ∧ True ∧ (0 ≤ v26 ∧ v26 ≤ (l.length : Int)) ∧ True)) (done' := [5, 4, 3, 2, 1, 0]) (st' := (⟨40, [(0, [], .v (.c (.p (.sl .bool) l))), (7, [], .v (.c (.p (.int .i64) v26))), (25, [], .v (.c (.p (.int .i64) (l.length : Int)))), (26, [], .v (.c (.p (.int .i64) v26))), (31, [], .v (.c (.p (.sl .bool) (l.drop (v26).toNat)))), (34, [], .v (.c (.p (.sl .bool) (l.take (v26).toNat))))], []⟩ : St)) (by kernel_rfl) ⟨trivial, trivial, o1, trivial, trivial, o2, trivial⟩ ?_
            refine awd_one (i := 6) (by kernel_rfl) ?_
            refine adop_stepp [0, 7, 25, 26, 35] [35] (ob := True) (st' := (⟨40, [(0, [], .v (.c (.p (.sl .bool) l))), (7, [], .v (.c (.p (.int .i64) v26))), (25, [], .v (.c (.p (.int .i64) (l.length : Int)))), (26, [], .v (.c (.p (.int .i64) v26))), (35, [], .v (.c (.own 35)))], [(35, [], .arr 31 (.sl .bool) [(l.drop (v26).toNat), (l.take (v26).toNat)])]⟩ : St)) rfl (by kernel_rfl) trivial ?_
            refine awd_one (i := 7) (by kernel_rfl) ?_
            refine adop_callOk (e := 4) (t := .bool) (l := [toV1 (.sl (.sl .bool)) [(l.drop (v26).toNat), (l.take (v26).toNat)]]) (cl := []) true [.d (.sl (.sl .bool))] [0, 7, 25, 26, 36] [36] (fun (ret36v : (List Bool)) => VC44 ret36v (fun (ret37v : Bool) => ((ret37v = true → K (v26, (0 : Int))) ∧ (ret37v = false → (InR (v26 + (1 : Int)) ∧ X1 (v26 + (1 : Int))))))) (fun ret36v => (⟨40, [(0, [], .v (.c (.p (.sl .bool) l))), (7, [], .v (.c (.p (.int .i64) v26))), (25, [], .v (.c (.p (.int .i64) (l.length : Int)))), (26, [], .v (.c (.p (.int .i64) v26))), (36, [], .v (.c (.own 36)))], [(36, [], .arr 4 .bool ret36v)]⟩ : St)) rfl rfl rfl (by kernel_rfl) rfl (by kernel_rfl) Try.call45 (by kernel_rfl) (fun _ => rfl) (fun ret36v => by kernel_rfl) (link45 [(l.drop (v26).toNat), (l.take (v26).toNat)] _ h) (fun ret36v h => ?_)
            have h : VC44 ret36v (fun (ret37v : Bool) => ((ret37v = true → K (v26, (0 : Int))) ∧ (ret37v = false → (InR (v26 + (1 : Int)) ∧ X1 (v26 + (1 : Int)))))) := h
            refine awd_one (i := 8) (by kernel_rfl) ?_
            refine adop_callk (p := []) (l := [toV1 (.sl .bool) ret36v]) (cl := []) true [.d (.sl .bool)] [0, 7, 25, 26, 37] [] (fun (ret37v : Bool) => ((ret37v = true → K (v26, (0 : Int))) ∧ (ret37v = false → (InR (v26 + (1 : Int)) ∧ X1 (v26 + (1 : Int)))))) (fun ret37v => [toV1 .bool ret37v]) (fun ret37v => (⟨40, [(0, [], .v (.c (.p (.sl .bool) l))), (7, [], .v (.c (.p (.int .i64) v26))), (25, [], .v (.c (.p (.int .i64) (l.length : Int)))), (26, [], .v (.c (.p (.int .i64) v26))), (37, [], .v (.c (.p .bool ret37v)))], []⟩ : St)) rfl (by kernel_rfl) rfl (by kernel_rfl) rfl (by kernel_rfl) Try.call44 (by kernel_rfl) (fun ret37v => by kernel_rfl) (fun _ _ => rfl) (fun hg => link44 ret36v _ h) (fun hg => noF hg) (fun ret37v h => ?_)
            have h : ((ret37v = true → K (v26, (0 : Int))) ∧ (ret37v = false → (InR (v26 + (1 : Int)) ∧ X1 (v26 + (1 : Int))))) := h
            refine awd_done (by kernel_rfl) ?_
            refine thenQ_n ?_
            refine aw_cond (b := ret37v) (by kernel_rfl) (fun hb => ?_) (fun hb => ?_)
            · have h := h.1 hb
              refine aw_seq ?_
              refine aw_region ?_
              refine awl_runp 3 [2, 3] [] (ob := (True ∧ True ∧ True ∧ True)) (st' := (⟨40, [(2, [], .v (.c (.p (.int .i64) v26))), (3, [], .v (.c (.p (.int .i64) (0 : Int))))], []⟩ : St)) (by kernel_rfl) ⟨trivial, trivial, trivial, trivial⟩ ?_
              refine awl_nil ?_
              refine thenQ_n ?_
              refine aw_ret ?_
              refine blockQ_r ?_
              refine thenQ_r ?_
              refine thenQ_r ?_
              refine blockQ_r ?_
              refine thenQ_r ?_
              exact retQ_r (σ := Int × Int) (R := (fun y => [toV1 (.int .i64) y.1, toV1 (.int .i64) y.2])) (ob := (True ∧ True ∧ True)) (v26, (0 : Int)) (by kernel_rfl) ⟨trivial, trivial, trivial⟩ h
            · have h := h.2 hb
              refine aw_skip ?_
              refine blockQ_n ?_
              refine thenQ_n ?_
              refine aw_region ?_
              obtain ⟨o1, h⟩ := h
              refine awl_runp 2 [0, 25, 26] [] (ob := (InR (v26 + (1 : Int)) ∧ True ∧ True)) (st' := (⟨40, [(0, [], .v (.c (.p (.sl .bool) l))), (25, [], .v (.c (.p (.int .i64) (l.length : Int)))), (26, [], .v (.c (.p (.int .i64) (v26 + (1 : Int)))))], []⟩ : St)) (by kernel_rfl) ⟨o1, trivial, trivial⟩ ?_
              refine awl_nil ?_
              exact thenQ_n ⟨(v26 + (1 : Int)), rfl, h⟩
          · have h := h.2 hb
            refine aw_conv [.prune [] []] (st' := (⟨40, [], []⟩ : St)) (by kernel_rfl) ?_
            refine aw_exit ?_
            refine thenQ_x ?_
            refine thenQ_x ?_
            refine blockQ_hit ?_
            exact rest1 () h
    · refine aw_block ?_
      refine aw_loop (σ := Int × Int) (fun s => (⟨40, [(0, [], .v (.c (.p (.sl .bool) l))), (4, [], .v (.c (.p (.int .i64) s.1))), (11, [], .v (.c (.p (.sl .bool) l))), (12, [], .v (.c (.p (.int .i64) (l.length : Int)))), (13, [], .v (.c (.p (.int .i64) s.2)))], []⟩ : St)) (fun s X => VC20_l2 l K s.1 s.2 X) (s0 := ((0 : Int), (0 : Int))) (fun s X2 h => ?_) h
      obtain ⟨n, v13⟩ := s
      have h : VC20_l2 l K n v13 X2 := h
      unfold VC20_l2 at h
      refine aw_seq ?_
      refine aw_region ?_
      refine awl_runp 1 [0, 4, 11, 12, 13, 14] [] (ob := (True ∧ True)) (st' := (⟨40, [(0, [], .v (.c (.p (.sl .bool) l))), (4, [], .v (.c (.p (.int .i64) n))), (11, [], .v (.c (.p (.sl .bool) l))), (12, [], .v (.c (.p (.int .i64) (l.length : Int)))), (13, [], .v (.c (.p (.int .i64) v13))), (14, [], .v (.c (.p .bool (decide (v13 < (l.length : Int))))))], []⟩ : St)) (by kernel_rfl) ⟨trivial, trivial⟩ ?_
      refine awl_nil ?_
      refine thenQ_n ?_
      refine aw_seq ?_
      refine aw_cond (b := (decide (v13 < (l.length : Int)))) (by kernel_rfl) (fun hb => ?_) (fun hb => ?_)
      · have h := h.1 hb
        refine aw_skip ?_
        refine thenQ_n ?_
        refine aw_seq ?_
        refine aw_block ?_
        refine aw_seq ?_
        refine aw_region ?_
        obtain ⟨o1, h⟩ := h
        refine awl_runp 3 [0, 4, 6, 11, 12, 13] [] (ob := (inIdx v13 l.length ∧ True ∧ True ∧ True)) (st' := (⟨40, [(0, [], .v (.c (.p (.sl .bool) l))), (4, [], .v (.c (.p (.int .i64) n))), (6, [], .v (.c (.p .bool (l.getD (v13).toNat false)))), (11, [], .v (.c (.p (.sl .bool) l))), (12, [], .v (.c (.p (.int .i64) (l.length : Int)))), (13, [], .v (.c (.p (.int .i64) v13)))], []⟩ : St)) (by kernel_rfl) ⟨o1, trivial, trivial, trivial⟩ ?_
        refine awl_nil ?_
        refine thenQ_n ?_
        refine aw_region ?_
        refine awl_runp 2 [0, 11, 12, 13, 17, 18] [] (ob := (True ∧ True ∧ True)) (st' := (⟨40, [(0, [], .v (.c (.p (.sl .bool) l))), (11, [], .v (.c (.p (.sl .bool) l))), (12, [], .v (.c (.p (.int .i64) (l.length : Int)))), (13, [], .v (.c (.p (.int .i64) v13))), (17, [], .v (.c (.p (.int .i64) n))), (18, [], .v (.c (.p .bool (l.getD (v13).toNat false))))], []⟩ : St)) (by kernel_rfl) ⟨trivial, trivial, trivial⟩ ?_
        refine awl_callk (p := []) (l := [toV1 .bool (l.getD (v13).toNat false)]) (cl := []) false [.d .bool] [0, 11, 12, 13, 17, 19] [] (fun (ret19v : Int) => (InR (n + ret19v) ∧ (InR (v13 + (1 : Int)) ∧ X2 ((n + ret19v), (v13 + (1 : Int)))))) (fun ret19v => [toV1 (.int .i64) ret19v]) (fun ret19v => (⟨40, [(0, [], .v (.c (.p (.sl .bool) l))), (11, [], .v (.c (.p (.sl .bool) l))), (12, [], .v (.c (.p (.int .i64) (l.length : Int)))), (13, [], .v (.c (.p (.int .i64) v13))), (17, [], .v (.c (.p (.int .i64) n))), (19, [], .v (.c (.p (.int .i64) ret19v)))], []⟩ : St)) (by kernel_rfl) rfl (by kernel_rfl) rfl (by kernel_rfl) Try.call43 (by kernel_rfl) (fun ret19v => by kernel_rfl) (fun e => by cases e) (fun hg => link43 (l.getD (v13).toNat false) _ h) (fun hg => noF hg) (fun ret19v h => ?_)
        have h : (InR (n + ret19v) ∧ (InR (v13 + (1 : Int)) ∧ X2 ((n + ret19v), (v13 + (1 : Int))))) := h
        obtain ⟨o1, h⟩ := h
        refine awl_runp 2 [0, 4, 11, 12, 13] [] (ob := (InR (n + ret19v) ∧ True ∧ True)) (st' := (⟨40, [(0, [], .v (.c (.p (.sl .bool) l))), (4, [], .v (.c (.p (.int .i64) (n + ret19v)))), (11, [], .v (.c (.p (.sl .bool) l))), (12, [], .v (.c (.p (.int .i64) (l.length : Int)))), (13, [], .v (.c (.p (.int .i64) v13)))], []⟩ : St)) (by kernel_rfl) ⟨o1, trivial, trivial⟩ ?_
        refine awl_nil ?_
        refine blockQ_n ?_
        refine thenQ_n ?_
        refine aw_region ?_
        obtain ⟨o1, h⟩ := h
        refine awl_runp 2 [0, 4, 11, 12, 13] [] (ob := (InR (v13 + (1 : Int)) ∧ True ∧ True)) (st' := (⟨40, [(0, [], .v (.c (.p (.sl .bool) l))), (4, [], .v (.c (.p (.int .i64) (n + ret19v)))), (11, [], .v (.c (.p (.sl .bool) l))), (12, [], .v (.c (.p (.int .i64) (l.length : Int)))), (13, [], .v (.c (.p (.int .i64) (v13 + (1 : Int)))))], []⟩ : St)) (by kernel_rfl) ⟨o1, trivial, trivial⟩ ?_
        refine awl_nil ?_
        exact thenQ_n ⟨((n + ret19v), (v13 + (1 : Int))), rfl, h⟩
      · have h := h.2 hb
        refine aw_conv [.prune [0, 4] []] (st' := (⟨40, [(0, [], .v (.c (.p (.sl .bool) l))), (4, [], .v (.c (.p (.int .i64) n)))], []⟩ : St)) (by kernel_rfl) ?_
        refine aw_exit ?_
        refine thenQ_x ?_
        refine thenQ_x ?_
        refine blockQ_hit ?_
        exact rest2 n h

-- coppicer/coppicerref.Deep
def VC21_k1 (K : Int → Prop) (deep : Int) : Prop :=
  K deep

def VC21_k2 (v8 : Int) (X1 : Int × Int → Prop) (deep2 : Int) : Prop :=
  (InR (v8 + (1 : Int)) ∧ X1 (deep2, (v8 + (1 : Int))))

def VC21_l1 (l : (List Bool)) (K : Int → Prop) (deep : Int) (v8 : Int) (X1 : Int × Int → Prop) : Prop :=
  (((decide (v8 < (l.length : Int))) = true → (inIdx v8 l.length ∧ (((l.getD (v8).toNat false) = true → (InR (deep + (1 : Int)) ∧ VC21_k2 v8 X1 (deep + (1 : Int)))) ∧ ((l.getD (v8).toNat false) = false → (InR (deep - (1 : Int)) ∧ VC21_k2 v8 X1 (deep - (1 : Int))))))) ∧ ((decide (v8 < (l.length : Int))) = false → VC21_k1 K deep))

def VC21 (l : (List Bool)) (K : Int → Prop) : Prop :=
  Loop (σ := Int × Int) (fun s X => VC21_l1 l K s.1 s.2 X) ((0 : Int), (0 : Int))

set_option maxHeartbeats 4000000 in
theorem link21 (l : (List Bool)) (K : Int → Prop) (h : VC21 l K) : ACalls Try.prog 21 [toV1 (.sl .bool) l] (fun res => ∃ y, res = (fun y => [toV1 (.int .i64) y]) y ∧ K y) := by
  refine acalls_of_aw [(.int .i64)] [.t 2] Try.func21 rfl rfl rfl ?_
  unfold VC21 at h
  refine aw_seq ?_
  refine aw_region ?_
  refine awl_runp 1 [0] [] (ob := (True ∧ True)) (st' := (⟨19, [(0, [], .v (.c (.p (.sl .bool) l)))], []⟩ : St)) (by kernel_rfl) ⟨trivial, trivial⟩ ?_
  refine awl_nil ?_
  refine thenQ_n ?_
  refine aw_seq ?_
  refine aw_region ?_
  refine awl_runp 1 [0, 3] [] (ob := (True ∧ True)) (st' := (⟨19, [(0, [], .v (.c (.p (.sl .bool) l))), (3, [], .v (.c (.p (.int .i64) (0 : Int))))], []⟩ : St)) (by kernel_rfl) ⟨trivial, trivial⟩ ?_
  refine awl_nil ?_
  refine thenQ_n ?_
  refine aw_seq ?_
  refine aw_seq ?_
  refine aw_region ?_
  refine awl_runp 3 [3, 6, 7, 8] [] (ob := (True ∧ True ∧ True ∧ True)) (st' := (⟨19, [(3, [], .v (.c (.p (.int .i64) (0 : Int)))), (6, [], .v (.c (.p (.sl .bool) l))), (7, [], .v (.c (.p (.int .i64) (l.length : Int)))), (8, [], .v (.c (.p (.int .i64) (0 : Int))))], []⟩ : St)) (by kernel_rfl) ⟨trivial, trivial, trivial, trivial⟩ ?_
  refine awl_nil ?_
  refine thenQ_n ?_
  refine withJoin (σ := Int) (fun s => (⟨19, [(3, [], .v (.c (.p (.int .i64) s)))], []⟩ : St)) (fun s => VC21_k1 K s) (fun deep h => ?_) (fun rest1 => ?_)
  · have h : VC21_k1 K deep := h
    unfold VC21_k1 at h
    refine thenQ_n ?_
    refine aw_seq ?_
    refine aw_region ?_
    refine awl_runp 2 [2] [] (ob := (True ∧ True ∧ True)) (st' := (⟨19, [(2, [], .v (.c (.p (.int .i64) deep)))], []⟩ : St)) (by kernel_rfl) ⟨trivial, trivial, trivial⟩ ?_
    refine awl_nil ?_
    refine thenQ_n ?_
    refine aw_ret ?_
    exact retQ_r (σ := Int) (R := (fun y => [toV1 (.int .i64) y])) (ob := (True ∧ True)) deep (by kernel_rfl) ⟨trivial, trivial⟩ h
  · refine aw_block ?_
    refine aw_loop (σ := Int × Int) (fun s => (⟨19, [(3, [], .v (.c (.p (.int .i64) s.1))), (6, [], .v (.c (.p (.sl .bool) l))), (7, [], .v (.c (.p (.int .i64) (l.length : Int)))), (8, [], .v (.c (.p (.int .i64) s.2)))], []⟩ : St)) (fun s X => VC21_l1 l K s.1 s.2 X) (s0 := ((0 : Int), (0 : Int))) (fun s X1 h => ?_) h
    obtain ⟨deep, v8⟩ := s
    have h : VC21_l1 l K deep v8 X1 := h
    unfold VC21_l1 at h
    refine aw_seq ?_
    refine aw_region ?_
    refine awl_runp 1 [3, 6, 7, 8, 9] [] (ob := (True ∧ True)) (st' := (⟨19, [(3, [], .v (.c (.p (.int .i64) deep))), (6, [], .v (.c (.p (.sl .bool) l))), (7, [], .v (.c (.p (.int .i64) (l.length : Int)))), (8, [], .v (.c (.p (.int .i64) v8))), (9, [], .v (.c (.p .bool (decide (v8 < (l.length : Int))))))], []⟩ : St)) (by kernel_rfl) ⟨trivial, trivial⟩ ?_
    refine awl_nil ?_
    refine thenQ_n ?_
    refine aw_seq ?_
    refine aw_cond (b := (decide (v8 < (l.length : Int)))) (by kernel_rfl) (fun hb => ?_) (fun hb => ?_)
    · have h := h.1 hb
      refine aw_skip ?_
      refine thenQ_n ?_
      refine aw_seq ?_
      refine aw_block ?_
      refine aw_seq ?_
      refine aw_region ?_
      obtain ⟨o1, h⟩ := h
      refine awl_runp 3 [3, 5, 6, 7, 8] [] (ob := (inIdx v8 l.length ∧ True ∧ True ∧ True)) (st' := (⟨19, [(3, [], .v (.c (.p (.int .i64) deep))), (5, [], .v (.c (.p .bool (l.getD (v8).toNat false)))), (6, [], .v (.c (.p (.sl .bool) l))), (7, [], .v (.c (.p (.int .i64) (l.length : Int)))), (8, [], .v (.c (.p (.int .i64) v8)))], []⟩ : St)) (by kernel_rfl) ⟨o1, trivial, trivial, trivial⟩ ?_
      refine awl_nil ?_
      refine thenQ_n ?_
      refine aw_seq ?_
      refine aw_region ?_
      refine awl_runp 1 [3, 6, 7, 8, 12] [] (ob := (True ∧ True)) (st' := (⟨19, [(3, [], .v (.c (.p (.int .i64) deep))), (6, [], .v (.c (.p (.sl .bool) l))), (7, [], .v (.c (.p (.int .i64) (l.length : Int)))), (8, [], .v (.c (.p (.int .i64) v8))), (12, [], .v (.c (.p .bool (l.getD (v8).toNat false))))], []⟩ : St)) (by kernel_rfl) ⟨trivial, trivial⟩ ?_
      refine awl_nil ?_
      refine thenQ_n ?_
      refine withJoin (σ := Int) (fun s => (⟨19, [(3, [], .v (.c (.p (.int .i64) s))), (6, [], .v (.c (.p (.sl .bool) l))), (7, [], .v (.c (.p (.int .i64) (l.length : Int)))), (8, [], .v (.c (.p (.int .i64) v8)))], []⟩ : St)) (fun s => VC21_k2 v8 X1 s) (fun deep2 h => ?_) (fun rest2 => ?_)
      · have h : VC21_k2 v8 X1 deep2 := h
        unfold VC21_k2 at h
        refine blockQ_n ?_
        refine thenQ_n ?_
        refine aw_region ?_
        obtain ⟨o1, h⟩ := h
        refine awl_runp 2 [3, 6, 7, 8] [] (ob := (InR (v8 + (1 : Int)) ∧ True ∧ True)) (st' := (⟨19, [(3, [], .v (.c (.p (.int .i64) deep2))), (6, [], .v (.c (.p (.sl .bool) l))), (7, [], .v (.c (.p (.int .i64) (l.length : Int)))), (8, [], .v (.c (.p (.int .i64) (v8 + (1 : Int)))))], []⟩ : St)) (by kernel_rfl) ⟨o1, trivial, trivial⟩ ?_
        refine awl_nil ?_
        exact thenQ_n ⟨(deep2, (v8 + (1 : Int))), rfl, h⟩
      · refine aw_cond (b := (l.getD (v8).toNat false)) (by kernel_rfl) (fun hb => ?_) (fun hb => ?_)
        · have h := h.1 hb
          refine aw_region ?_
          obtain ⟨o1, h⟩ := h
          refine awl_runp 3 [3, 6, 7, 8] [] (ob := (True ∧ InR (deep + (1 : Int)) ∧ True ∧ True)) (st' := (⟨19, [(3, [], .v (.c (.p (.int .i64) (deep + (1 : Int))))), (6, [], .v (.c (.p (.sl .bool) l))), (7, [], .v (.c (.p (.int .i64) (l.length : Int)))), (8, [], .v (.c (.p (.int .i64) v8)))], []⟩ : St)) (by kernel_rfl) ⟨trivial, o1, trivial, trivial⟩ ?_
          refine awl_nil ?_
          exact rest2 (deep + (1 : Int)) h
        · have h := h.2 hb
          refine aw_region ?_
          obtain ⟨o1, h⟩ := h
          refine awl_runp 3 [3, 6, 7, 8] [] (ob := (True ∧ InR (deep - (1 : Int)) ∧ True ∧ True)) (st' := (⟨19, [(3, [], .v (.c (.p (.int .i64) (deep - (1 : Int))))), (6, [], .v (.c (.p (.sl .bool) l))), (7, [], .v (.c (.p (.int .i64) (l.length : Int)))), (8, [], .v (.c (.p (.int .i64) v8)))], []⟩ : St)) (by kernel_rfl) ⟨trivial, o1, trivial, trivial⟩ ?_
          refine awl_nil ?_
          exact rest2 (deep - (1 : Int)) h
    · have h := h.2 hb
      refine aw_conv [.prune [3] []] (st' := (⟨19, [(3, [], .v (.c (.p (.int .i64) deep)))], []⟩ : St)) (by kernel_rfl) ?_
      refine aw_exit ?_
      refine thenQ_x ?_
      refine thenQ_x ?_
      refine blockQ_hit ?_
      exact rest1 deep h

-- coppicer/coppicerref.Above
def VC22_k1 (K : Bool → Prop) : Prop :=
  K true

def VC22_k2 (K : Bool → Prop) (v8 : Int) (X1 : Int × Int → Prop) (deep2 : Int) : Prop :=
  (((decide (deep2 < (1 : Int))) = true → K false) ∧ ((decide (deep2 < (1 : Int))) = false → (InR (v8 + (1 : Int)) ∧ X1 (deep2, (v8 + (1 : Int))))))

def VC22_l1 (l : (List Bool)) (K : Bool → Prop) (deep : Int) (v8 : Int) (X1 : Int × Int → Prop) : Prop :=
  (((decide (v8 < (l.length : Int))) = true → (inIdx v8 l.length ∧ (((l.getD (v8).toNat false) = true → (InR (deep + (1 : Int)) ∧ VC22_k2 K v8 X1 (deep + (1 : Int)))) ∧ ((l.getD (v8).toNat false) = false → (InR (deep - (1 : Int)) ∧ VC22_k2 K v8 X1 (deep - (1 : Int))))))) ∧ ((decide (v8 < (l.length : Int))) = false → VC22_k1 K))

def VC22 (l : (List Bool)) (K : Bool → Prop) : Prop :=
  Loop (σ := Int × Int) (fun s X => VC22_l1 l K s.1 s.2 X) ((0 : Int), (0 : Int))

set_option maxHeartbeats 4000000 in
theorem link22 (l : (List Bool)) (K : Bool → Prop) (h : VC22 l K) : ACalls Try.prog 22 [toV1 (.sl .bool) l] (fun res => ∃ y, res = (fun y => [toV1 .bool y]) y ∧ K y) := by
  refine acalls_of_aw [.bool] [.t 2] Try.func22 rfl rfl rfl ?_
  unfold VC22 at h
  refine aw_seq ?_
  refine aw_region ?_
  refine awl_runp 1 [0] [] (ob := (True ∧ True)) (st' := (⟨20, [(0, [], .v (.c (.p (.sl .bool) l)))], []⟩ : St)) (by kernel_rfl) ⟨trivial, trivial⟩ ?_
  refine awl_nil ?_
  refine thenQ_n ?_
  refine aw_seq ?_
  refine aw_region ?_
  refine awl_runp 1 [0, 3] [] (ob := (True ∧ True)) (st' := (⟨20, [(0, [], .v (.c (.p (.sl .bool) l))), (3, [], .v (.c (.p (.int .i64) (0 : Int))))], []⟩ : St)) (by kernel_rfl) ⟨trivial, trivial⟩ ?_
  refine awl_nil ?_
  refine thenQ_n ?_
  refine aw_seq ?_
  refine aw_seq ?_
  refine aw_region ?_
  refine awl_runp 3 [3, 6, 7, 8] [] (ob := (True ∧ True ∧ True ∧ True)) (st' := (⟨20, [(3, [], .v (.c (.p (.int .i64) (0 : Int)))), (6, [], .v (.c (.p (.sl .bool) l))), (7, [], .v (.c (.p (.int .i64) (l.length : Int)))), (8, [], .v (.c (.p (.int .i64) (0 : Int))))], []⟩ : St)) (by kernel_rfl) ⟨trivial, trivial, trivial, trivial⟩ ?_
  refine awl_nil ?_
  refine thenQ_n ?_
  refine withJoin (σ := Unit) (fun s => (⟨20, [], []⟩ : St)) (fun s => VC22_k1 K) (fun s h => ?_) (fun rest1 => ?_)
  · have h : VC22_k1 K := h
    unfold VC22_k1 at h
    refine thenQ_n ?_
    refine aw_seq ?_
    refine aw_region ?_
    refine awl_runp 1 [2] [] (ob := (True ∧ True)) (st' := (⟨20, [(2, [], .v (.c (.p .bool true)))], []⟩ : St)) (by kernel_rfl) ⟨trivial, trivial⟩ ?_
    refine awl_nil ?_
    refine thenQ_n ?_
    refine aw_ret ?_
    exact retQ_r (σ := Bool) (R := (fun y => [toV1 .bool y])) (ob := (True ∧ True)) true (by kernel_rfl) ⟨trivial, trivial⟩ h
  · refine aw_block ?_
    refine aw_loop (σ := Int × Int) (fun s => (⟨20, [(3, [], .v (.c (.p (.int .i64) s.1))), (6, [], .v (.c (.p (.sl .bool) l))), (7, [], .v (.c (.p (.int .i64) (l.length : Int)))), (8, [], .v (.c (.p (.int .i64) s.2)))], []⟩ : St)) (fun s X => VC22_l1 l K s.1 s.2 X) (s0 := ((0 : Int), (0 : Int))) (fun s X1 h => ?_) h
    obtain ⟨deep, v8⟩ := s
    have h : VC22_l1 l K deep v8 X1 := h
    unfold VC22_l1 at h
    refine aw_seq ?_
    refine aw_region ?_
    refine awl_runp 1 [3, 6, 7, 8, 9] [] (ob := (True ∧ True)) (st' := (⟨20, [(3, [], .v (.c (.p (.int .i64) deep))), (6, [], .v (.c (.p (.sl .bool) l))), (7, [], .v (.c (.p (.int .i64) (l.length : Int)))), (8, [], .v (.c (.p (.int .i64) v8))), (9, [], .v (.c (.p .bool (decide (v8 < (l.length : Int))))))], []⟩ : St)) (by kernel_rfl) ⟨trivial, trivial⟩ ?_
    refine awl_nil ?_
    refine thenQ_n ?_
    refine aw_seq ?_
    refine aw_cond (b := (decide (v8 < (l.length : Int)))) (by kernel_rfl) (fun hb => ?_) (fun hb => ?_)
    · have h := h.1 hb
      refine aw_skip ?_
      refine thenQ_n ?_
      refine aw_seq ?_
      refine aw_block ?_
      refine aw_seq ?_
      refine aw_region ?_
      obtain ⟨o1, h⟩ := h
      refine awl_runp 3 [3, 5, 6, 7, 8] [] (ob := (inIdx v8 l.length ∧ True ∧ True ∧ True)) (st' := (⟨20, [(3, [], .v (.c (.p (.int .i64) deep))), (5, [], .v (.c (.p .bool (l.getD (v8).toNat false)))), (6, [], .v (.c (.p (.sl .bool) l))), (7, [], .v (.c (.p (.int .i64) (l.length : Int)))), (8, [], .v (.c (.p (.int .i64) v8)))], []⟩ : St)) (by kernel_rfl) ⟨o1, trivial, trivial, trivial⟩ ?_
      refine awl_nil ?_
      refine thenQ_n ?_
      refine aw_seq ?_
      refine aw_seq ?_
      refine aw_region ?_
      refine awl_runp 1 [3, 6, 7, 8, 12] [] (ob := (True ∧ True)) (st' := (⟨20, [(3, [], .v (.c (.p (.int .i64) deep))), (6, [], .v (.c (.p (.sl .bool) l))), (7, [], .v (.c (.p (.int .i64) (l.length : Int)))), (8, [], .v (.c (.p (.int .i64) v8))), (12, [], .v (.c (.p .bool (l.getD (v8).toNat false))))], []⟩ : St)) (by kernel_rfl) ⟨trivial, trivial⟩ ?_
      refine awl_nil ?_
      refine thenQ_n ?_
      refine withJoin (σ := Int) (fun s => (⟨20, [(3, [], .v (.c (.p (.int .i64) s))), (6, [], .v (.c (.p (.sl .bool) l))), (7, [], .v (.c (.p (.int .i64) (l.length : Int)))), (8, [], .v (.c (.p (.int .i64) v8)))], []⟩ : St)) (fun s => VC22_k2 K v8 X1 s) (fun deep2 h => ?_) (fun rest2 => ?_)
      · have h : VC22_k2 K v8 X1 deep2 := h
        unfold VC22_k2 at h
        refine thenQ_n ?_
        refine aw_seq ?_
        refine aw_region ?_
        refine awl_runp 2 [3, 6, 7, 8, 18] [] (ob := (True ∧ True ∧ True)) (st' := (⟨20, [(3, [], .v (.c (.p (.int .i64) deep2))), (6, [], .v (.c (.p (.sl .bool) l))), (7, [], .v (.c (.p (.int .i64) (l.length : Int)))), (8, [], .v (.c (.p (.int .i64) v8))), (18, [], .v (.c (.p .bool (decide (deep2 < (1 : Int))))))], []⟩ : St)) (by kernel_rfl) ⟨trivial, trivial, trivial⟩ ?_
        refine awl_nil ?_
        refine thenQ_n ?_
        refine aw_cond (b := (decide (deep2 < (1 : Int)))) (by kernel_rfl) (fun hb => ?_) (fun hb => ?_)
        · have h := h.1 hb
          refine aw_seq ?_
          refine aw_region ?_
          refine awl_runp 1 [2] [] (ob := (True ∧ True)) (st' := (⟨20, [(2, [], .v (.c (.p .bool false)))], []⟩ : St)) (by kernel_rfl) ⟨trivial, trivial⟩ ?_
          refine awl_nil ?_
          refine thenQ_n ?_
          refine aw_ret ?_
          refine blockQ_r ?_
          refine thenQ_r ?_
          refine thenQ_r ?_
          refine blockQ_r ?_
          refine thenQ_r ?_
          exact retQ_r (σ := Bool) (R := (fun y => [toV1 .bool y])) (ob := (True ∧ True)) false (by kernel_rfl) ⟨trivial, trivial⟩ h
        · have h := h.2 hb
          refine aw_skip ?_
          refine blockQ_n ?_
          refine thenQ_n ?_
          refine aw_region ?_
          obtain ⟨o1, h⟩ := h
          refine awl_runp 2 [3, 6, 7, 8] [] (ob := (InR (v8 + (1 : Int)) ∧ True ∧ True)) (st' := (⟨20, [(3, [], .v (.c (.p (.int .i64) deep2))), (6, [], .v (.c (.p (.sl .bool) l))), (7, [], .v (.c (.p (.int .i64) (l.length : Int)))), (8, [], .v (.c (.p (.int .i64) (v8 + (1 : Int)))))], []⟩ : St)) (by kernel_rfl) ⟨o1, trivial, trivial⟩ ?_
          refine awl_nil ?_
          exact thenQ_n ⟨(deep2, (v8 + (1 : Int))), rfl, h⟩
      · refine aw_cond (b := (l.getD (v8).toNat false)) (by kernel_rfl) (fun hb => ?_) (fun hb => ?_)
        · have h := h.1 hb
          refine aw_region ?_
          obtain ⟨o1, h⟩ := h
          refine awl_runp 3 [3, 6, 7, 8] [] (ob := (True ∧ InR (deep + (1 : Int)) ∧ True ∧ True)) (st' := (⟨20, [(3, [], .v (.c (.p (.int .i64) (deep + (1 : Int))))), (6, [], .v (.c (.p (.sl .bool) l))), (7, [], .v (.c (.p (.int .i64) (l.length : Int)))), (8, [], .v (.c (.p (.int .i64) v8)))], []⟩ : St)) (by kernel_rfl) ⟨trivial, o1, trivial, trivial⟩ ?_
          refine awl_nil ?_
          exact rest2 (deep + (1 : Int)) h
        · have h := h.2 hb
          refine aw_region ?_
          obtain ⟨o1, h⟩ := h
          refine awl_runp 3 [3, 6, 7, 8] [] (ob := (True ∧ InR (deep - (1 : Int)) ∧ True ∧ True)) (st' := (⟨20, [(3, [], .v (.c (.p (.int .i64) (deep - (1 : Int))))), (6, [], .v (.c (.p (.sl .bool) l))), (7, [], .v (.c (.p (.int .i64) (l.length : Int)))), (8, [], .v (.c (.p (.int .i64) v8)))], []⟩ : St)) (by kernel_rfl) ⟨trivial, o1, trivial, trivial⟩ ?_
          refine awl_nil ?_
          exact rest2 (deep - (1 : Int)) h
    · have h := h.2 hb
      refine aw_conv [.prune [] []] (st' := (⟨20, [], []⟩ : St)) (by kernel_rfl) ?_
      refine aw_exit ?_
      refine thenQ_x ?_
      refine thenQ_x ?_
      refine blockQ_hit ?_
      exact rest1 () h

-- coppicer/coppicerkeep.BracketCycle
def VC6 (l : (List Bool)) (k : Int) (K : Bool → Prop) : Prop :=
  VC20 l (fun (ret9v : Int × Int) => gcall (α := Int) (!(decide ((60 : Int) < (l.length : Int)))) (VC21 l) (0 : Int) (fun (ret17v : Int) => ((((decide ((60 : Int) < (l.length : Int))) || (!decide (ret17v = (1 : Int)))) = true → K (!decide (ret9v.2 = (0 : Int)))) ∧ (((decide ((60 : Int) < (l.length : Int))) || (!decide (ret17v = (1 : Int)))) = false → (((((!decide (ret9v.2 = (0 : Int))) || (decide (ret9v.1 < (0 : Int)))) || (decide ((l.length : Int) ≤ ret9v.1))) = true → K false) ∧ ((((!decide (ret9v.2 = (0 : Int))) || (decide (ret9v.1 < (0 : Int)))) || (decide ((l.length : Int) ≤ ret9v.1))) = false → ((((decide (k < (0 : Int))) || (decide ((l.length : Int) ≤ k))) = true → K true) ∧ (((decide (k < (0 : Int))) || (decide ((l.length : Int) ≤ k))) = false → ((0 ≤ k ∧ k ≤ (l.length : Int)) ∧ (0 ≤ k ∧ k ≤ (l.length : Int)) ∧ (roomN (([] : List Bool).length + (l.drop (k).toNat).length) ∧ (roomN ((([] : List Bool) ++ (l.drop (k).toNat)).length + (l.take (k).toNat).length) ∧ VC22 ((([] : List Bool) ++ (l.drop (k).toNat)) ++ (l.take (k).toNat)) (fun (ret51v : Bool) => K (ret51v == (decide (k = ret9v.1)))))))))))))))

set_option maxHeartbeats 4000000 in
theorem link6 (l : (List Bool)) (k : Int) (K : Bool → Prop) (h : VC6 l k K) : ACalls Try.prog 6 [toV1 (.sl .bool) l, toV1 (.int .i64) k] (fun res => ∃ y, res = (fun y => [toV1 .bool y]) y ∧ K y) := by
  refine acalls_of_aw [.bool] [.t 4] Try.func6 rfl rfl rfl ?_
  unfold VC6 at h
  refine aw_seq ?_
  refine aw_region ?_
  refine awl_runp 1 [0, 1] [] (ob := (True ∧ True)) (st' := (⟨56, [(0, [], .v (.c (.p (.sl .bool) l))), (1, [], .v (.c (.p (.int .i64) k)))], []⟩ : St)) (by kernel_rfl) ⟨trivial, trivial⟩ ?_
  refine awl_nil ?_
  refine thenQ_n ?_
  refine aw_seq ?_
  refine aw_region ?_
  refine awl_runp 1 [0, 1, 8] [] (ob := (True ∧ True)) (st' := (⟨56, [(0, [], .v (.c (.p (.sl .bool) l))), (1, [], .v (.c (.p (.int .i64) k))), (8, [], .v (.c (.p (.sl .bool) l)))], []⟩ : St)) (by kernel_rfl) ⟨trivial, trivial⟩ ?_
  refine awl_callk (p := []) (l := [toV1 (.sl .bool) l]) (cl := []) false [.d (.sl .bool)] [0, 1, 9] [] (fun (ret9v : Int × Int) => gcall (α := Int) (!(decide ((60 : Int) < (l.length : Int)))) (VC21 l) (0 : Int) (fun (ret17v : Int) => ((((decide ((60 : Int) < (l.length : Int))) || (!decide (ret17v = (1 : Int)))) = true → K (!decide (ret9v.2 = (0 : Int)))) ∧ (((decide ((60 : Int) < (l.length : Int))) || (!decide (ret17v = (1 : Int)))) = false → (((((!decide (ret9v.2 = (0 : Int))) || (decide (ret9v.1 < (0 : Int)))) || (decide ((l.length : Int) ≤ ret9v.1))) = true → K false) ∧ ((((!decide (ret9v.2 = (0 : Int))) || (decide (ret9v.1 < (0 : Int)))) || (decide ((l.length : Int) ≤ ret9v.1))) = false → ((((decide (k < (0 : Int))) || (decide ((l.length : Int) ≤ k))) = true → K true) ∧ (((decide (k < (0 : Int))) || (decide ((l.length : Int) ≤ k))) = false → ((0 ≤ k ∧ k ≤ (l.length : Int)) ∧ (0 ≤ k ∧ k ≤ (l.length : Int)) ∧ (roomN (([] : List Bool).length + (l.drop (k).toNat).length) ∧ (roomN ((([] : List Bool) ++ (l.drop (k).toNat)).length + (l.take (k).toNat).length) ∧ VC22 ((([] : List Bool) ++ (l.drop (k).toNat)) ++ (l.take (k).toNat)) (fun (ret51v : Bool) => K (ret51v == (decide (k = ret9v.1))))))))))))))) (fun ret9v => [toV1 (.int .i64) ret9v.1, toV1 (.int .i64) ret9v.2]) (fun ret9v => (⟨56, [(0, [], .v (.c (.p (.sl .bool) l))), (1, [], .v (.c (.p (.int .i64) k))), (9, [], .tup [.c (.p (.int .i64) ret9v.1), .c (.p (.int .i64) ret9v.2)])], []⟩ : St)) (by kernel_rfl) rfl (by kernel_rfl) rfl (by kernel_rfl) Try.call20 (by kernel_rfl) (fun ret9v => by kernel_rfl) (fun e => by cases e) (fun hg => link20 l _ h) (fun hg => noF hg) (fun ret9v h => ?_)
  have h : gcall (α := Int) (!(decide ((60 : Int) < (l.length : Int)))) (VC21 l) (0 : Int) (fun (ret17v : Int) => ((((decide ((60 : Int) < (l.length : Int))) || (!decide (ret17v = (1 : Int)))) = true → K (!decide (ret9v.2 = (0 : Int)))) ∧ (((decide ((60 : Int) < (l.length : Int))) || (!decide (ret17v = (1 : Int)))) = false → (((((!decide (ret9v.2 = (0 : Int))) || (decide (ret9v.1 < (0 : Int)))) || (decide ((l.length : Int) ≤ ret9v.1))) = true → K false) ∧ ((((!decide (ret9v.2 = (0 : Int))) || (decide (ret9v.1 < (0 : Int)))) || (decide ((l.length : Int) ≤ ret9v.1))) = false → ((((decide (k < (0 : Int))) || (decide ((l.length : Int) ≤ k))) = true → K true) ∧ (((decide (k < (0 : Int))) || (decide ((l.length : Int) ≤ k))) = false → ((0 ≤ k ∧ k ≤ (l.length : Int)) ∧ (0 ≤ k ∧ k ≤ (l.length : Int)) ∧ (roomN (([] : List Bool).length + (l.drop (k).toNat).length) ∧ (roomN ((([] : List Bool) ++ (l.drop (k).toNat)).length + (l.take (k).toNat).length) ∧ VC22 ((([] : List Bool) ++ (l.drop (k).toNat)) ++ (l.take (k).toNat)) (fun (ret51v : Bool) => K (ret51v == (decide (k = ret9v.1)))))))))))))) := h
  refine awl_runp 5 [0, 1, 5, 6] [] (ob := (True ∧ True ∧ True ∧ True ∧ True ∧ True)) (st' := (⟨56, [(0, [], .v (.c (.p (.sl .bool) l))), (1, [], .v (.c (.p (.int .i64) k))), (5, [], .v (.c (.p (.int .i64) ret9v.1))), (6, [], .v (.c (.p (.int .i64) ret9v.2)))], []⟩ : St)) (by kernel_rfl) ⟨trivial, trivial, trivial, trivial, trivial, trivial⟩ ?_
  refine awl_nil ?_
  refine thenQ_n ?_
  refine aw_seq ?_
  refine aw_seq ?_
  refine aw_region ?_
  refine awl_runp 5 [0, 1, 5, 6, 15, 16] [] (ob := (True ∧ True ∧ True ∧ True ∧ ((decide ((60 : Int) < (l.length : Int))) = false → True) ∧ True)) (st' := (⟨56, [(0, [], .v (.c (.p (.sl .bool) l))), (1, [], .v (.c (.p (.int .i64) k))), (5, [], .v (.c (.p (.int .i64) ret9v.1))), (6, [], .v (.c (.p (.int .i64) ret9v.2))), (15, [], .v (.c (.p .bool (decide ((60 : Int) < (l.length : Int)))))), (16, [(15, false)], .v (.c (.p (.sl .bool) l)))], []⟩ : St)) (by kernel_rfl) ⟨trivial, trivial, trivial, trivial, (fun _ => trivial), trivial⟩ ?_
  refine awl_callk (p := [(15, false)]) (l := [toV1 (.sl .bool) l]) (cl := []) false [.d (.sl .bool)] [0, 1, 5, 6, 15, 17] [] (fun (ret17v : Int) => ((((decide ((60 : Int) < (l.length : Int))) || (!decide (ret17v = (1 : Int)))) = true → K (!decide (ret9v.2 = (0 : Int)))) ∧ (((decide ((60 : Int) < (l.length : Int))) || (!decide (ret17v = (1 : Int)))) = false → (((((!decide (ret9v.2 = (0 : Int))) || (decide (ret9v.1 < (0 : Int)))) || (decide ((l.length : Int) ≤ ret9v.1))) = true → K false) ∧ ((((!decide (ret9v.2 = (0 : Int))) || (decide (ret9v.1 < (0 : Int)))) || (decide ((l.length : Int) ≤ ret9v.1))) = false → ((((decide (k < (0 : Int))) || (decide ((l.length : Int) ≤ k))) = true → K true) ∧ (((decide (k < (0 : Int))) || (decide ((l.length : Int) ≤ k))) = false → ((0 ≤ k ∧ k ≤ (l.length : Int)) ∧ (0 ≤ k ∧ k ≤ (l.length : Int)) ∧ (roomN (([] : List Bool).length + (l.drop (k).toNat).length) ∧ (roomN ((([] : List Bool) ++ (l.drop (k).toNat)).length + (l.take (k).toNat).length) ∧ VC22 ((([] : List Bool) ++ (l.drop (k).toNat)) ++ (l.take (k).toNat)) (fun (ret51v : Bool) => K (ret51v == (decide (k = ret9v.1)))))))))))))) (fun ret17v => [toV1 (.int .i64) ret17v]) (fun ret17v => (⟨56, [(0, [], .v (.c (.p (.sl .bool) l))), (1, [], .v (.c (.p (.int .i64) k))), (5, [], .v (.c (.p (.int .i64) ret9v.1))), (6, [], .v (.c (.p (.int .i64) ret9v.2))), (15, [], .v (.c (.p .bool (decide ((60 : Int) < (l.length : Int)))))), (17, [(15, false)], .v (.c (.p (.int .i64) ret17v)))], []⟩ : St)) (by kernel_rfl) rfl (by kernel_rfl) rfl (by kernel_rfl) Try.call21 (by kernel_rfl) (fun ret17v => by kernel_rfl) (fun e => by cases e) (fun hg => link21 l _ (by have := gcall_T h (show (!(decide ((60 : Int) < (l.length : Int)))) = true from hg); exact this)) (fun hg => ⟨(0 : Int), by have := gcall_F h (show (!(decide ((60 : Int) < (l.length : Int)))) = false from hg); exact this⟩) (fun ret17v h => ?_)
  have h : ((((decide ((60 : Int) < (l.length : Int))) || (!decide (ret17v = (1 : Int)))) = true → K (!decide (ret9v.2 = (0 : Int)))) ∧ (((decide ((60 : Int) < (l.length : Int))) || (!decide (ret17v = (1 : Int)))) = false → (((((!decide (ret9v.2 = (0 : Int))) || (decide (ret9v.1 < (0 : Int)))) || (decide ((l.length : Int) ≤ ret9v.1))) = true → K false) ∧ ((((!decide (ret9v.2 = (0 : Int))) || (decide (ret9v.1 < (0 : Int)))) || (decide ((l.length : Int) ≤ ret9v.1))) = false → ((((decide (k < (0 : Int))) || (decide ((l.length : Int) ≤ k))) = true → K true) ∧ (((decide (k < (0 : Int))) || (decide ((l.length : Int) ≤ k))) = false → ((0 ≤ k ∧ k ≤ (l.length : Int)) ∧ (0 ≤ k ∧ k ≤ (l.length : Int)) ∧ (roomN (([] : List Bool).length + (l.drop (k).toNat).length) ∧ (roomN ((([] : List Bool) ++ (l.drop (k).toNat)).length + (l.take (k).toNat).length) ∧ VC22 ((([] : List Bool) ++ (l.drop (k).toNat)) ++ (l.take (k).toNat)) (fun (ret51v : Bool) => K (ret51v == (decide (k = ret9v.1))))))))))))) := h
  refine awl_runp 2 [0, 1, 5, 6, 19] [] (ob := (((decide ((60 : Int) < (l.length : Int))) = false → True) ∧ True ∧ True)) (st' := (⟨56, [(0, [], .v (.c (.p (.sl .bool) l))), (1, [], .v (.c (.p (.int .i64) k))), (5, [], .v (.c (.p (.int .i64) ret9v.1))), (6, [], .v (.c (.p (.int .i64) ret9v.2))), (19, [], .v (.c (.p .bool ((decide ((60 : Int) < (l.length : Int))) || (!decide (ret17v = (1 : Int)))))))], []⟩ : St)) (by kernel_rfl) ⟨(fun _ => trivial), trivial, trivial⟩ ?_
  refine awl_nil ?_
  refine thenQ_n ?_
  refine aw_cond (b := ((decide ((60 : Int) < (l.length : Int))) || (!decide (ret17v = (1 : Int))))) (by kernel_rfl) (fun hb => ?_) (fun hb => ?_)
  · have h := h.1 hb
    refine aw_seq ?_
    refine aw_region ?_
    refine awl_runp 3 [4] [] (ob := (True ∧ True ∧ True ∧ True)) (st' := (⟨56, [(4, [], .v (.c (.p .bool (!decide (ret9v.2 = (0 : Int))))))], []⟩ : St)) (by kernel_rfl) ⟨trivial, trivial, trivial, trivial⟩ ?_
    refine awl_nil ?_
    refine thenQ_n ?_
    refine aw_ret ?_
    refine thenQ_r ?_
    exact retQ_r (σ := Bool) (R := (fun y => [toV1 .bool y])) (ob := (True ∧ True)) (!decide (ret9v.2 = (0 : Int))) (by kernel_rfl) ⟨trivial, trivial⟩ h
  · have h := h.2 hb
    refine aw_skip ?_
    refine thenQ_n ?_
    refine aw_seq ?_
    refine aw_seq ?_
    refine aw_region ?_
    refine awl_runp 12 [0, 1, 5, 33] [] (ob := (True ∧ True ∧ True ∧ ((!decide (ret9v.2 = (0 : Int))) = false → True) ∧ ((!decide (ret9v.2 = (0 : Int))) = false → True) ∧ True ∧ True ∧ (((!decide (ret9v.2 = (0 : Int))) || (decide (ret9v.1 < (0 : Int)))) = false → True) ∧ (((!decide (ret9v.2 = (0 : Int))) || (decide (ret9v.1 < (0 : Int)))) = false → True) ∧ (((!decide (ret9v.2 = (0 : Int))) || (decide (ret9v.1 < (0 : Int)))) = false → True) ∧ (((!decide (ret9v.2 = (0 : Int))) || (decide (ret9v.1 < (0 : Int)))) = false → True) ∧ True ∧ True)) (st' := (⟨56, [(0, [], .v (.c (.p (.sl .bool) l))), (1, [], .v (.c (.p (.int .i64) k))), (5, [], .v (.c (.p (.int .i64) ret9v.1))), (33, [], .v (.c (.p .bool (((!decide (ret9v.2 = (0 : Int))) || (decide (ret9v.1 < (0 : Int)))) || (decide ((l.length : Int) ≤ ret9v.1))))))], []⟩ : St)) (by kernel_rfl) ⟨trivial, trivial, trivial, (fun _ => trivial), (fun _ => trivial), trivial, trivial, (fun _ => trivial), (fun _ => trivial), (fun _ => trivial), (fun _ => trivial), trivial, trivial⟩ ?_
    refine awl_nil ?_
    refine thenQ_n ?_
    refine aw_cond (b := (((!decide (ret9v.2 = (0 : Int))) || (decide (ret9v.1 < (0 : Int)))) || (decide ((l.length : Int) ≤ ret9v.1)))) (by kernel_rfl) (fun hb => ?_) (fun hb => ?_)
    · have h := h.1 hb
      refine aw_seq ?_
      refine aw_region ?_
      refine awl_runp 1 [4] [] (ob := (True ∧ True)) (st' := (⟨56, [(4, [], .v (.c (.p .bool false)))], []⟩ : St)) (by kernel_rfl) ⟨trivial, trivial⟩ ?_
      refine awl_nil ?_
      refine thenQ_n ?_
      refine aw_ret ?_
      refine thenQ_r ?_
      exact retQ_r (σ := Bool) (R := (fun y => [toV1 .bool y])) (ob := (True ∧ True)) false (by kernel_rfl) ⟨trivial, trivial⟩ h
    · have h := h.2 hb
      refine aw_skip ?_
      refine thenQ_n ?_
      refine aw_seq ?_
      refine aw_seq ?_
      refine aw_region ?_
      refine awl_runp 8 [0, 1, 5, 41] [] (ob := (True ∧ True ∧ True ∧ ((decide (k < (0 : Int))) = false → True) ∧ ((decide (k < (0 : Int))) = false → True) ∧ ((decide (k < (0 : Int))) = false → True) ∧ ((decide (k < (0 : Int))) = false → True) ∧ True ∧ True)) (st' := (⟨56, [(0, [], .v (.c (.p (.sl .bool) l))), (1, [], .v (.c (.p (.int .i64) k))), (5, [], .v (.c (.p (.int .i64) ret9v.1))), (41, [], .v (.c (.p .bool ((decide (k < (0 : Int))) || (decide ((l.length : Int) ≤ k))))))], []⟩ : St)) (by kernel_rfl) ⟨trivial, trivial, trivial, (fun _ => trivial), (fun _ => trivial), (fun _ => trivial), (fun _ => trivial), trivial, trivial⟩ ?_
      refine awl_nil ?_
      refine thenQ_n ?_
      refine aw_cond (b := ((decide (k < (0 : Int))) || (decide ((l.length : Int) ≤ k)))) (by kernel_rfl) (fun hb => ?_) (fun hb => ?_)
      · have h := h.1 hb
        refine aw_seq ?_
        refine aw_region ?_
        refine awl_runp 1 [4] [] (ob := (True ∧ True)) (st' := (⟨56, [(4, [], .v (.c (.p .bool true)))], []⟩ : St)) (by kernel_rfl) ⟨trivial, trivial⟩ ?_
        refine awl_nil ?_
        refine thenQ_n ?_
        refine aw_ret ?_
        refine thenQ_r ?_
        exact retQ_r (σ := Bool) (R := (fun y => [toV1 .bool y])) (ob := (True ∧ True)) true (by kernel_rfl) ⟨trivial, trivial⟩ h
      · have h := h.2 hb
        refine aw_skip ?_
        refine thenQ_n ?_
        refine aw_seq ?_
        refine awd_begin [42, 46] (by kernel_rfl) ?_
        obtain ⟨o1, o2, h⟩ := h
        refine awd_runp (by kernel_rfl) [1, 2, 3, 5, 6, 7, 10, 11, 12] [45, 49, 54] [] (ob := (True ∧ True ∧ (0 ≤ k ∧ k ≤ (l.length : Int)) ∧ True ∧ True ∧ (0 ≤ k ∧ k ≤ (l.length : Int)) ∧ True ∧ True ∧ True ∧ True)) (done' := [12, 11, 10, 7, 6, 5, 3, 2, 1]) (st' := (⟨56, [(45, [], .v (.c (.p (.sl .bool) (l.drop (k).toNat)))), (49, [], .v (.c (.p (.sl .bool) (l.take (k).toNat)))), (54, [], .v (.c (.p .bool (decide (k = ret9v.1)))))], []⟩ : St)) (by kernel_rfl) ⟨trivial, trivial, o1, trivial, trivial, o2, trivial, trivial, trivial, trivial⟩ ?_
        refine awd_one (i := 0) (by kernel_rfl) ?_
        refine adop_stepp [42, 45, 49, 54] [42] (ob := True) (st' := (⟨56, [(42, [], .v (.c (.own 42))), (45, [], .v (.c (.p (.sl .bool) (l.drop (k).toNat)))), (49, [], .v (.c (.p (.sl .bool) (l.take (k).toNat)))), (54, [], .v (.c (.p .bool (decide (k = ret9v.1)))))], [(42, [], .arr 4 .bool ([] : List Bool))]⟩ : St)) rfl (by kernel_rfl) trivial ?_
        refine awd_one (i := 4) (by kernel_rfl) ?_
        obtain ⟨o1, h⟩ := h
        refine adop_stepp [46, 49, 54] [46] (ob := roomN (([] : List Bool).length + (l.drop (k).toNat).length)) (st' := (⟨56, [(46, [], .v (.c (.own 46))), (49, [], .v (.c (.p (.sl .bool) (l.take (k).toNat)))), (54, [], .v (.c (.p .bool (decide (k = ret9v.1)))))], [(46, [], .arr 4 .bool (([] : List Bool) ++ (l.drop (k).toNat)))]⟩ : St)) rfl (by kernel_rfl) o1 ?_
        refine awd_one (i := 8) (by kernel_rfl) ?_
        obtain ⟨o1, h⟩ := h
        refine adop_stepp [50, 54] [50] (ob := roomN ((([] : List Bool) ++ (l.drop (k).toNat)).length + (l.take (k).toNat).length)) (st' := (⟨56, [(50, [], .v (.c (.own 50))), (54, [], .v (.c (.p .bool (decide (k = ret9v.1)))))], [(50, [], .arr 4 .bool ((([] : List Bool) ++ (l.drop (k).toNat)) ++ (l.take (k).toNat)))]⟩ : St)) rfl (by kernel_rfl) o1 ?_
        refine awd_one (i := 9) (by kernel_rfl) ?_
        refine adop_callk (p := []) (l := [toV1 (.sl .bool) ((([] : List Bool) ++ (l.drop (k).toNat)) ++ (l.take (k).toNat))]) (cl := []) true [.d (.sl .bool)] [51, 54] [] (fun (ret51v : Bool) => K (ret51v == (decide (k = ret9v.1)))) (fun ret51v => [toV1 .bool ret51v]) (fun ret51v => (⟨56, [(51, [], .v (.c (.p .bool ret51v))), (54, [], .v (.c (.p .bool (decide (k = ret9v.1)))))], []⟩ : St)) rfl (by kernel_rfl) rfl (by kernel_rfl) rfl (by kernel_rfl) Try.call22 (by kernel_rfl) (fun ret51v => by kernel_rfl) (fun _ _ => rfl) (fun hg => link22 ((([] : List Bool) ++ (l.drop (k).toNat)) ++ (l.take (k).toNat)) _ h) (fun hg => noF hg) (fun ret51v h => ?_)
        have h : K (ret51v == (decide (k = ret9v.1))) := h
        refine awd_runp (by kernel_rfl) [13, 14] [4] [] (ob := (True ∧ True ∧ True)) (done' := [14, 13, 9, 8, 4, 0, 12, 11, 10, 7, 6, 5, 3, 2, 1]) (st' := (⟨56, [(4, [], .v (.c (.p .bool (ret51v == (decide (k = ret9v.1))))))], []⟩ : St)) (by kernel_rfl) ⟨trivial, trivial, trivial⟩ ?_
        refine awd_done (by kernel_rfl) ?_
        refine thenQ_n ?_
        refine aw_ret ?_
        exact retQ_r (σ := Bool) (R := (fun y => [toV1 .bool y])) (ob := (True ∧ True)) (ret51v == (decide (k = ret9v.1))) (by kernel_rfl) ⟨trivial, trivial⟩ h

end Dec
