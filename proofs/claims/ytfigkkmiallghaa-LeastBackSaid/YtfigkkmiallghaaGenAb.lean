/-
  Printed by dec2.py: of each function its plain demand, and that the demand gives the contract.
-/
import Derived.Test.YtfigkkmiallghaaGenAa
set_option linter.unusedVariables false
set_option linter.unusedSimpArgs false
set_option maxRecDepth 100000
namespace Dec
open Go Go.RowKit Go.Proofs

-- coppicer/coppicerref.MachineCheck
def VC26_k2 (m : (Int × (Int × ((List (List Int)) × (Int × Int))))) (K : Int → Prop) : Prop :=
  ((((decide (m.2.2.2.1 < (0 : Int))) || (decide (m.1 ≤ m.2.2.2.1))) = true → K (2 : Int)) ∧ (((decide (m.2.2.2.1 < (0 : Int))) || (decide (m.1 ≤ m.2.2.2.1))) = false → (0 ≤ (IntKind.wrap .u64 m.1) ∧ (((decide ((bShl .u32 (1 : Int) (IntKind.wrap .u64 m.1)) ≤ m.2.2.2.2)) = true → K (4 : Int)) ∧ ((decide ((bShl .u32 (1 : Int) (IntKind.wrap .u64 m.1)) ≤ m.2.2.2.2)) = false → K (0 : Int))))))

def VC26_k3 (v49 : Int) (X1 : Int → Prop) : Prop :=
  (InR (v49 + (1 : Int)) ∧ X1 (v49 + (1 : Int)))

def VC26_l2 (m : (Int × (Int × ((List (List Int)) × (Int × Int))))) (K : Int → Prop) (v49 : Int) (X1 : Int → Prop) (v55 : Int) (X2 : Int → Prop) : Prop :=
  (((decide (v55 < ((m.2.2.1.getD (v49).toNat ([] : (List Int))).length : Int))) = true → (inIdx v55 (m.2.2.1.getD (v49).toNat ([] : (List Int))).length ∧ ((((decide (((m.2.2.1.getD (v49).toNat ([] : (List Int))).getD (v55).toNat (0 : Int)) < (0 : Int))) || (decide (m.1 ≤ ((m.2.2.1.getD (v49).toNat ([] : (List Int))).getD (v55).toNat (0 : Int))))) = true → K (2 : Int)) ∧ (((decide (((m.2.2.1.getD (v49).toNat ([] : (List Int))).getD (v55).toNat (0 : Int)) < (0 : Int))) || (decide (m.1 ≤ ((m.2.2.1.getD (v49).toNat ([] : (List Int))).getD (v55).toNat (0 : Int))))) = false → (InR (v55 + (1 : Int)) ∧ X2 (v55 + (1 : Int))))))) ∧ ((decide (v55 < ((m.2.2.1.getD (v49).toNat ([] : (List Int))).length : Int))) = false → VC26_k3 v49 X1))

def VC26_l1 (m : (Int × (Int × ((List (List Int)) × (Int × Int))))) (K : Int → Prop) (v49 : Int) (X1 : Int → Prop) : Prop :=
  (((decide (v49 < (m.2.2.1.length : Int))) = true → (inIdx v49 m.2.2.1.length ∧ Loop (σ := Int) (fun s X => VC26_l2 m K v49 X1 s X) (0 : Int))) ∧ ((decide (v49 < (m.2.2.1.length : Int))) = false → VC26_k2 m K))

def VC26_k1 (m : (Int × (Int × ((List (List Int)) × (Int × Int))))) (K : Int → Prop) : Prop :=
  Loop (σ := Int) (fun s X => VC26_l1 m K s X) (0 : Int)

def VC26_l3 (m : (Int × (Int × ((List (List Int)) × (Int × Int))))) (K : Int → Prop) (v36 : Int) (X3 : Int → Prop) : Prop :=
  (((decide (v36 < (m.2.2.1.length : Int))) = true → (inIdx v36 m.2.2.1.length ∧ (((!decide (((m.2.2.1.getD (v36).toNat ([] : (List Int))).length : Int) = m.2.1)) = true → K (3 : Int)) ∧ ((!decide (((m.2.2.1.getD (v36).toNat ([] : (List Int))).length : Int) = m.2.1)) = false → (InR (v36 + (1 : Int)) ∧ X3 (v36 + (1 : Int))))))) ∧ ((decide (v36 < (m.2.2.1.length : Int))) = false → VC26_k1 m K))

def VC26 (m : (Int × (Int × ((List (List Int)) × (Int × Int))))) (K : Int → Prop) : Prop :=
  ((((((decide (m.1 < (1 : Int))) || (decide ((7 : Int) < m.1))) || (decide (m.2.1 < (1 : Int)))) || (decide ((3 : Int) < m.2.1))) = true → K (1 : Int)) ∧ (((((decide (m.1 < (1 : Int))) || (decide ((7 : Int) < m.1))) || (decide (m.2.1 < (1 : Int)))) || (decide ((3 : Int) < m.2.1))) = false → (((!decide ((m.2.2.1.length : Int) = m.1)) = true → K (3 : Int)) ∧ ((!decide ((m.2.2.1.length : Int) = m.1)) = false → Loop (σ := Int) (fun s X => VC26_l3 m K s X) (0 : Int)))))

set_option maxHeartbeats 4000000 in
theorem link26 (m : (Int × (Int × ((List (List Int)) × (Int × Int))))) (K : Int → Prop) (h : VC26 m K) : ACalls Try.prog 26 [toV1 (.pr (.int .i64) (.pr (.int .i64) (.pr (.sl (.sl (.int .i64))) (.pr (.int .i64) (.int .u32))))) m] (fun res => ∃ y, res = (fun y => [toV1 (.int .i64) y]) y ∧ K y) := by
  refine acalls_of_aw [(.int .i64)] [.t 2] Try.func26 rfl rfl rfl ?_
  unfold VC26 at h
  refine aw_seq ?_
  refine aw_region ?_
  refine awl_runp 2 [1] [1] (ob := (True ∧ True ∧ True)) (st' := (⟨86, [(1, [], .v (.c (.ptr 1 0)))], [(1, [], .box [.p (.int .i64) m.1, .p (.int .i64) m.2.1, .p (.sl (.sl (.int .i64))) m.2.2.1, .p (.int .i64) m.2.2.2.1, .p (.int .u32) m.2.2.2.2])]⟩ : St)) (by kernel_rfl) ⟨trivial, trivial, trivial⟩ ?_
  refine awl_nil ?_
  refine thenQ_n ?_
  refine aw_seq ?_
  refine aw_seq ?_
  refine aw_region ?_
  refine awl_runp 18 [1, 26] [1] (ob := (True ∧ True ∧ True ∧ True ∧ ((decide (m.1 < (1 : Int))) = false → True) ∧ ((decide (m.1 < (1 : Int))) = false → True) ∧ ((decide (m.1 < (1 : Int))) = false → True) ∧ True ∧ True ∧ (((decide (m.1 < (1 : Int))) || (decide ((7 : Int) < m.1))) = false → True) ∧ (((decide (m.1 < (1 : Int))) || (decide ((7 : Int) < m.1))) = false → True) ∧ (((decide (m.1 < (1 : Int))) || (decide ((7 : Int) < m.1))) = false → True) ∧ True ∧ True ∧ ((((decide (m.1 < (1 : Int))) || (decide ((7 : Int) < m.1))) || (decide (m.2.1 < (1 : Int)))) = false → True) ∧ ((((decide (m.1 < (1 : Int))) || (decide ((7 : Int) < m.1))) || (decide (m.2.1 < (1 : Int)))) = false → True) ∧ ((((decide (m.1 < (1 : Int))) || (decide ((7 : Int) < m.1))) || (decide (m.2.1 < (1 : Int)))) = false → True) ∧ True ∧ True)) (st' := (⟨86, [(1, [], .v (.c (.ptr 1 0))), (26, [], .v (.c (.p .bool ((((decide (m.1 < (1 : Int))) || (decide ((7 : Int) < m.1))) || (decide (m.2.1 < (1 : Int)))) || (decide ((3 : Int) < m.2.1))))))], [(1, [], .box [.p (.int .i64) m.1, .p (.int .i64) m.2.1, .p (.sl (.sl (.int .i64))) m.2.2.1, .p (.int .i64) m.2.2.2.1, .p (.int .u32) m.2.2.2.2])]⟩ : St)) (by kernel_rfl) ⟨trivial, trivial, trivial, trivial, (fun _ => trivial), (fun _ => trivial), (fun _ => trivial), trivial, trivial, (fun _ => trivial), (fun _ => trivial), (fun _ => trivial), trivial, trivial, (fun _ => trivial), (fun _ => trivial), (fun _ => trivial), trivial, trivial⟩ ?_
  refine awl_nil ?_
  refine thenQ_n ?_
  refine aw_cond (b := ((((decide (m.1 < (1 : Int))) || (decide ((7 : Int) < m.1))) || (decide (m.2.1 < (1 : Int)))) || (decide ((3 : Int) < m.2.1)))) (by kernel_rfl) (fun hb => ?_) (fun hb => ?_)
  · have h := h.1 hb
    refine aw_seq ?_
    refine aw_region ?_
    refine awl_runp 1 [2] [] (ob := (True ∧ True)) (st' := (⟨86, [(2, [], .v (.c (.p (.int .i64) (1 : Int))))], []⟩ : St)) (by kernel_rfl) ⟨trivial, trivial⟩ ?_
    refine awl_nil ?_
    refine thenQ_n ?_
    refine aw_ret ?_
    refine thenQ_r ?_
    exact retQ_r (σ := Int) (R := (fun y => [toV1 (.int .i64) y])) (ob := (True ∧ True)) (1 : Int) (by kernel_rfl) ⟨trivial, trivial⟩ h
  · have h := h.2 hb
    refine aw_skip ?_
    refine thenQ_n ?_
    refine aw_seq ?_
    refine aw_seq ?_
    refine aw_region ?_
    refine awl_runp 6 [1, 32] [1] (ob := (True ∧ True ∧ True ∧ True ∧ True ∧ True ∧ True)) (st' := (⟨86, [(1, [], .v (.c (.ptr 1 0))), (32, [], .v (.c (.p .bool (!decide ((m.2.2.1.length : Int) = m.1)))))], [(1, [], .box [.p (.int .i64) m.1, .p (.int .i64) m.2.1, .p (.sl (.sl (.int .i64))) m.2.2.1, .p (.int .i64) m.2.2.2.1, .p (.int .u32) m.2.2.2.2])]⟩ : St)) (by kernel_rfl) ⟨trivial, trivial, trivial, trivial, trivial, trivial, trivial⟩ ?_
    refine awl_nil ?_
    refine thenQ_n ?_
    refine aw_cond (b := (!decide ((m.2.2.1.length : Int) = m.1))) (by kernel_rfl) (fun hb => ?_) (fun hb => ?_)
    · have h := h.1 hb
      refine aw_seq ?_
      refine aw_region ?_
      refine awl_runp 1 [2] [] (ob := (True ∧ True)) (st' := (⟨86, [(2, [], .v (.c (.p (.int .i64) (3 : Int))))], []⟩ : St)) (by kernel_rfl) ⟨trivial, trivial⟩ ?_
      refine awl_nil ?_
      refine thenQ_n ?_
      refine aw_ret ?_
      refine thenQ_r ?_
      exact retQ_r (σ := Int) (R := (fun y => [toV1 (.int .i64) y])) (ob := (True ∧ True)) (3 : Int) (by kernel_rfl) ⟨trivial, trivial⟩ h
    · have h := h.2 hb
      refine aw_skip ?_
      refine thenQ_n ?_
      refine aw_seq ?_
      refine aw_seq ?_
      refine aw_region ?_
      refine awl_runp 4 [1, 34, 35, 36] [1] (ob := (True ∧ True ∧ True ∧ True ∧ True)) (st' := (⟨86, [(1, [], .v (.c (.ptr 1 0))), (34, [], .v (.c (.p (.sl (.sl (.int .i64))) m.2.2.1))), (35, [], .v (.c (.p (.int .i64) (m.2.2.1.length : Int)))), (36, [], .v (.c (.p (.int .i64) (0 : Int))))], [(1, [], .box [.p (.int .i64) m.1, .p (.int .i64) m.2.1, .p (.sl (.sl (.int .i64))) m.2.2.1, .p (.int .i64) m.2.2.2.1, .p (.int .u32) m.2.2.2.2])]⟩ : St)) (by kernel_rfl) ⟨trivial, trivial, trivial, trivial, trivial⟩ ?_
      refine awl_nil ?_
      refine thenQ_n ?_
      refine withJoin (σ := Unit) (fun s => (⟨86, [(1, [], .v (.c (.ptr 1 0)))], [(1, [], .box [.p (.int .i64) m.1, .p (.int .i64) m.2.1, .p (.sl (.sl (.int .i64))) m.2.2.1, .p (.int .i64) m.2.2.2.1, .p (.int .u32) m.2.2.2.2])]⟩ : St)) (fun s => VC26_k1 m K) (fun s h => ?_) (fun rest3 => ?_)
      · have h : VC26_k1 m K := h
        unfold VC26_k1 at h
        refine thenQ_n ?_
        refine aw_seq ?_
        refine aw_seq ?_
        refine aw_region ?_
        refine awl_runp 4 [1, 47, 48, 49] [1] (ob := (True ∧ True ∧ True ∧ True ∧ True)) (st' := (⟨86, [(1, [], .v (.c (.ptr 1 0))), (47, [], .v (.c (.p (.sl (.sl (.int .i64))) m.2.2.1))), (48, [], .v (.c (.p (.int .i64) (m.2.2.1.length : Int)))), (49, [], .v (.c (.p (.int .i64) (0 : Int))))], [(1, [], .box [.p (.int .i64) m.1, .p (.int .i64) m.2.1, .p (.sl (.sl (.int .i64))) m.2.2.1, .p (.int .i64) m.2.2.2.1, .p (.int .u32) m.2.2.2.2])]⟩ : St)) (by kernel_rfl) ⟨trivial, trivial, trivial, trivial, trivial⟩ ?_
        refine awl_nil ?_
        refine thenQ_n ?_
        refine withJoin (σ := Unit) (fun s => (⟨86, [(1, [], .v (.c (.ptr 1 0)))], [(1, [], .box [.p (.int .i64) m.1, .p (.int .i64) m.2.1, .p (.sl (.sl (.int .i64))) m.2.2.1, .p (.int .i64) m.2.2.2.1, .p (.int .u32) m.2.2.2.2])]⟩ : St)) (fun s => VC26_k2 m K) (fun s h => ?_) (fun rest1 => ?_)
        · have h : VC26_k2 m K := h
          unfold VC26_k2 at h
          refine thenQ_n ?_
          refine aw_seq ?_
          refine aw_seq ?_
          refine aw_region ?_
          refine awl_runp 10 [1, 78] [1] (ob := (True ∧ True ∧ True ∧ True ∧ ((decide (m.2.2.2.1 < (0 : Int))) = false → True) ∧ ((decide (m.2.2.2.1 < (0 : Int))) = false → True) ∧ ((decide (m.2.2.2.1 < (0 : Int))) = false → True) ∧ ((decide (m.2.2.2.1 < (0 : Int))) = false → True) ∧ ((decide (m.2.2.2.1 < (0 : Int))) = false → True) ∧ True ∧ True)) (st' := (⟨86, [(1, [], .v (.c (.ptr 1 0))), (78, [], .v (.c (.p .bool ((decide (m.2.2.2.1 < (0 : Int))) || (decide (m.1 ≤ m.2.2.2.1))))))], [(1, [], .box [.p (.int .i64) m.1, .p (.int .i64) m.2.1, .p (.sl (.sl (.int .i64))) m.2.2.1, .p (.int .i64) m.2.2.2.1, .p (.int .u32) m.2.2.2.2])]⟩ : St)) (by kernel_rfl) ⟨trivial, trivial, trivial, trivial, (fun _ => trivial), (fun _ => trivial), (fun _ => trivial), (fun _ => trivial), (fun _ => trivial), trivial, trivial⟩ ?_
          refine awl_nil ?_
          refine thenQ_n ?_
          refine aw_cond (b := ((decide (m.2.2.2.1 < (0 : Int))) || (decide (m.1 ≤ m.2.2.2.1)))) (by kernel_rfl) (fun hb => ?_) (fun hb => ?_)
          · have h := h.1 hb
            refine aw_seq ?_
            refine aw_region ?_
            refine awl_runp 1 [2] [] (ob := (True ∧ True)) (st' := (⟨86, [(2, [], .v (.c (.p (.int .i64) (2 : Int))))], []⟩ : St)) (by kernel_rfl) ⟨trivial, trivial⟩ ?_
            refine awl_nil ?_
            refine thenQ_n ?_
            refine aw_ret ?_
            refine thenQ_r ?_
            exact retQ_r (σ := Int) (R := (fun y => [toV1 (.int .i64) y])) (ob := (True ∧ True)) (2 : Int) (by kernel_rfl) ⟨trivial, trivial⟩ h
          · have h := h.2 hb
            refine aw_skip ?_
            refine thenQ_n ?_
            refine aw_seq ?_
            refine aw_seq ?_
            refine aw_region ?_
            obtain ⟨o1, h⟩ := h
            refine awl_runp 7 [85] [] (ob := (True ∧ True ∧ True ∧ True ∧ True ∧ 0 ≤ (IntKind.wrap .u64 m.1) ∧ True ∧ True)) (st' := (⟨86, [(85, [], .v (.c (.p .bool (decide ((bShl .u32 (1 : Int) (IntKind.wrap .u64 m.1)) ≤ m.2.2.2.2)))))], []⟩ : St)) (by kernel_rfl) ⟨trivial, trivial, trivial, trivial, trivial, o1, trivial, trivial⟩ ?_
            refine awl_nil ?_
            refine thenQ_n ?_
            refine aw_cond (b := (decide ((bShl .u32 (1 : Int) (IntKind.wrap .u64 m.1)) ≤ m.2.2.2.2))) (by kernel_rfl) (fun hb => ?_) (fun hb => ?_)
            · have h := h.1 hb
              refine aw_seq ?_
              refine aw_region ?_
              refine awl_runp 1 [2] [] (ob := (True ∧ True)) (st' := (⟨86, [(2, [], .v (.c (.p (.int .i64) (4 : Int))))], []⟩ : St)) (by kernel_rfl) ⟨trivial, trivial⟩ ?_
              refine awl_nil ?_
              refine thenQ_n ?_
              refine aw_ret ?_
              refine thenQ_r ?_
              exact retQ_r (σ := Int) (R := (fun y => [toV1 (.int .i64) y])) (ob := (True ∧ True)) (4 : Int) (by kernel_rfl) ⟨trivial, trivial⟩ h
            · have h := h.2 hb
              refine aw_skip ?_
              refine thenQ_n ?_
              refine aw_seq ?_
              refine aw_region ?_
              refine awl_runp 1 [2] [] (ob := (True ∧ True)) (st' := (⟨86, [(2, [], .v (.c (.p (.int .i64) (0 : Int))))], []⟩ : St)) (by kernel_rfl) ⟨trivial, trivial⟩ ?_
              refine awl_nil ?_
              refine thenQ_n ?_
              refine aw_ret ?_
              exact retQ_r (σ := Int) (R := (fun y => [toV1 (.int .i64) y])) (ob := (True ∧ True)) (0 : Int) (by kernel_rfl) ⟨trivial, trivial⟩ h
        · refine aw_block ?_
          refine aw_loop (σ := Int) (fun s => (⟨86, [(1, [], .v (.c (.ptr 1 0))), (47, [], .v (.c (.p (.sl (.sl (.int .i64))) m.2.2.1))), (48, [], .v (.c (.p (.int .i64) (m.2.2.1.length : Int)))), (49, [], .v (.c (.p (.int .i64) s)))], [(1, [], .box [.p (.int .i64) m.1, .p (.int .i64) m.2.1, .p (.sl (.sl (.int .i64))) m.2.2.1, .p (.int .i64) m.2.2.2.1, .p (.int .u32) m.2.2.2.2])]⟩ : St)) (fun s X => VC26_l1 m K s X) (s0 := (0 : Int)) (fun v49 X1 h => ?_) h
          have h : VC26_l1 m K v49 X1 := h
          unfold VC26_l1 at h
          refine aw_seq ?_
          refine aw_region ?_
          refine awl_runp 1 [1, 47, 48, 49, 50] [1] (ob := (True ∧ True)) (st' := (⟨86, [(1, [], .v (.c (.ptr 1 0))), (47, [], .v (.c (.p (.sl (.sl (.int .i64))) m.2.2.1))), (48, [], .v (.c (.p (.int .i64) (m.2.2.1.length : Int)))), (49, [], .v (.c (.p (.int .i64) v49))), (50, [], .v (.c (.p .bool (decide (v49 < (m.2.2.1.length : Int))))))], [(1, [], .box [.p (.int .i64) m.1, .p (.int .i64) m.2.1, .p (.sl (.sl (.int .i64))) m.2.2.1, .p (.int .i64) m.2.2.2.1, .p (.int .u32) m.2.2.2.2])]⟩ : St)) (by kernel_rfl) ⟨trivial, trivial⟩ ?_
          refine awl_nil ?_
          refine thenQ_n ?_
          refine aw_seq ?_
          refine aw_cond (b := (decide (v49 < (m.2.2.1.length : Int)))) (by kernel_rfl) (fun hb => ?_) (fun hb => ?_)
          · have h := h.1 hb
            refine aw_skip ?_
            refine thenQ_n ?_
            refine aw_seq ?_
            refine aw_block ?_
            refine aw_seq ?_
            refine aw_region ?_
            obtain ⟨o1, h⟩ := h
            refine awl_runp 3 [1, 6, 47, 48, 49] [1] (ob := (inIdx v49 m.2.2.1.length ∧ True ∧ True ∧ True)) (st' := (⟨86, [(1, [], .v (.c (.ptr 1 0))), (6, [], .v (.c (.p (.sl (.int .i64)) (m.2.2.1.getD (v49).toNat ([] : (List Int)))))), (47, [], .v (.c (.p (.sl (.sl (.int .i64))) m.2.2.1))), (48, [], .v (.c (.p (.int .i64) (m.2.2.1.length : Int)))), (49, [], .v (.c (.p (.int .i64) v49)))], [(1, [], .box [.p (.int .i64) m.1, .p (.int .i64) m.2.1, .p (.sl (.sl (.int .i64))) m.2.2.1, .p (.int .i64) m.2.2.2.1, .p (.int .u32) m.2.2.2.2])]⟩ : St)) (by kernel_rfl) ⟨o1, trivial, trivial, trivial⟩ ?_
            refine awl_nil ?_
            refine thenQ_n ?_
            refine aw_seq ?_
            refine aw_region ?_
            refine awl_runp 3 [1, 47, 48, 49, 53, 54, 55] [1] (ob := (True ∧ True ∧ True ∧ True)) (st' := (⟨86, [(1, [], .v (.c (.ptr 1 0))), (47, [], .v (.c (.p (.sl (.sl (.int .i64))) m.2.2.1))), (48, [], .v (.c (.p (.int .i64) (m.2.2.1.length : Int)))), (49, [], .v (.c (.p (.int .i64) v49))), (53, [], .v (.c (.p (.sl (.int .i64)) (m.2.2.1.getD (v49).toNat ([] : (List Int)))))), (54, [], .v (.c (.p (.int .i64) ((m.2.2.1.getD (v49).toNat ([] : (List Int))).length : Int)))), (55, [], .v (.c (.p (.int .i64) (0 : Int))))], [(1, [], .box [.p (.int .i64) m.1, .p (.int .i64) m.2.1, .p (.sl (.sl (.int .i64))) m.2.2.1, .p (.int .i64) m.2.2.2.1, .p (.int .u32) m.2.2.2.2])]⟩ : St)) (by kernel_rfl) ⟨trivial, trivial, trivial, trivial⟩ ?_
            refine awl_nil ?_
            refine thenQ_n ?_
            refine withJoin (σ := Unit) (fun s => (⟨86, [(1, [], .v (.c (.ptr 1 0))), (47, [], .v (.c (.p (.sl (.sl (.int .i64))) m.2.2.1))), (48, [], .v (.c (.p (.int .i64) (m.2.2.1.length : Int)))), (49, [], .v (.c (.p (.int .i64) v49)))], [(1, [], .box [.p (.int .i64) m.1, .p (.int .i64) m.2.1, .p (.sl (.sl (.int .i64))) m.2.2.1, .p (.int .i64) m.2.2.2.1, .p (.int .u32) m.2.2.2.2])]⟩ : St)) (fun s => VC26_k3 v49 X1) (fun s h => ?_) (fun rest2 => ?_)
            · have h : VC26_k3 v49 X1 := h
              unfold VC26_k3 at h
              refine blockQ_n ?_
              refine thenQ_n ?_
              refine aw_region ?_
              obtain ⟨o1, h⟩ := h
              refine awl_runp 2 [1, 47, 48, 49] [1] (ob := (InR (v49 + (1 : Int)) ∧ True ∧ True)) (st' := (⟨86, [(1, [], .v (.c (.ptr 1 0))), (47, [], .v (.c (.p (.sl (.sl (.int .i64))) m.2.2.1))), (48, [], .v (.c (.p (.int .i64) (m.2.2.1.length : Int)))), (49, [], .v (.c (.p (.int .i64) (v49 + (1 : Int)))))], [(1, [], .box [.p (.int .i64) m.1, .p (.int .i64) m.2.1, .p (.sl (.sl (.int .i64))) m.2.2.1, .p (.int .i64) m.2.2.2.1, .p (.int .u32) m.2.2.2.2])]⟩ : St)) (by kernel_rfl) ⟨o1, trivial, trivial⟩ ?_
              refine awl_nil ?_
              exact thenQ_n ⟨(v49 + (1 : Int)), rfl, h⟩
            · refine aw_block ?_
              refine aw_loop (σ := Int) (fun s => (⟨86, [(1, [], .v (.c (.ptr 1 0))), (47, [], .v (.c (.p (.sl (.sl (.int .i64))) m.2.2.1))), (48, [], .v (.c (.p (.int .i64) (m.2.2.1.length : Int)))), (49, [], .v (.c (.p (.int .i64) v49))), (53, [], .v (.c (.p (.sl (.int .i64)) (m.2.2.1.getD (v49).toNat ([] : (List Int)))))), (54, [], .v (.c (.p (.int .i64) ((m.2.2.1.getD (v49).toNat ([] : (List Int))).length : Int)))), (55, [], .v (.c (.p (.int .i64) s)))], [(1, [], .box [.p (.int .i64) m.1, .p (.int .i64) m.2.1, .p (.sl (.sl (.int .i64))) m.2.2.1, .p (.int .i64) m.2.2.2.1, .p (.int .u32) m.2.2.2.2])]⟩ : St)) (fun s X => VC26_l2 m K v49 X1 s X) (s0 := (0 : Int)) (fun v55 X2 h => ?_) h
              have h : VC26_l2 m K v49 X1 v55 X2 := h
              unfold VC26_l2 at h
              refine aw_seq ?_
              refine aw_region ?_
              refine awl_runp 1 [1, 47, 48, 49, 53, 54, 55, 56] [1] (ob := (True ∧ True)) (st' := (⟨86, [(1, [], .v (.c (.ptr 1 0))), (47, [], .v (.c (.p (.sl (.sl (.int .i64))) m.2.2.1))), (48, [], .v (.c (.p (.int .i64) (m.2.2.1.length : Int)))), (49, [], .v (.c (.p (.int .i64) v49))), (53, [], .v (.c (.p (.sl (.int .i64)) (m.2.2.1.getD (v49).toNat ([] : (List Int)))))), (54, [], .v (.c (.p (.int .i64) ((m.2.2.1.getD (v49).toNat ([] : (List Int))).length : Int)))), (55, [], .v (.c (.p (.int .i64) v55))), (56, [], .v (.c (.p .bool (decide (v55 < ((m.2.2.1.getD (v49).toNat ([] : (List Int))).length : Int))))))], [(1, [], .box [.p (.int .i64) m.1, .p (.int .i64) m.2.1, .p (.sl (.sl (.int .i64))) m.2.2.1, .p (.int .i64) m.2.2.2.1, .p (.int .u32) m.2.2.2.2])]⟩ : St)) (by kernel_rfl) ⟨trivial, trivial⟩ ?_
              refine awl_nil ?_
              refine thenQ_n ?_
              refine aw_seq ?_
              refine aw_cond (b := (decide (v55 < ((m.2.2.1.getD (v49).toNat ([] : (List Int))).length : Int)))) (by kernel_rfl) (fun hb => ?_) (fun hb => ?_)
              · have h := h.1 hb
                refine aw_skip ?_
                refine thenQ_n ?_
                refine aw_seq ?_
                refine aw_block ?_
                refine aw_seq ?_
                refine aw_region ?_
                obtain ⟨o1, h⟩ := h
                refine awl_runp 3 [1, 8, 47, 48, 49, 53, 54, 55] [1] (ob := (inIdx v55 (m.2.2.1.getD (v49).toNat ([] : (List Int))).length ∧ True ∧ True ∧ True)) (st' := (⟨86, [(1, [], .v (.c (.ptr 1 0))), (8, [], .v (.c (.p (.int .i64) ((m.2.2.1.getD (v49).toNat ([] : (List Int))).getD (v55).toNat (0 : Int))))), (47, [], .v (.c (.p (.sl (.sl (.int .i64))) m.2.2.1))), (48, [], .v (.c (.p (.int .i64) (m.2.2.1.length : Int)))), (49, [], .v (.c (.p (.int .i64) v49))), (53, [], .v (.c (.p (.sl (.int .i64)) (m.2.2.1.getD (v49).toNat ([] : (List Int)))))), (54, [], .v (.c (.p (.int .i64) ((m.2.2.1.getD (v49).toNat ([] : (List Int))).length : Int)))), (55, [], .v (.c (.p (.int .i64) v55)))], [(1, [], .box [.p (.int .i64) m.1, .p (.int .i64) m.2.1, .p (.sl (.sl (.int .i64))) m.2.2.1, .p (.int .i64) m.2.2.2.1, .p (.int .u32) m.2.2.2.2])]⟩ : St)) (by kernel_rfl) ⟨o1, trivial, trivial, trivial⟩ ?_
                refine awl_nil ?_
                refine thenQ_n ?_
                refine aw_seq ?_
                refine aw_region ?_
                refine awl_runp 8 [1, 47, 48, 49, 53, 54, 55, 66] [1] (ob := (True ∧ True ∧ True ∧ ((decide (((m.2.2.1.getD (v49).toNat ([] : (List Int))).getD (v55).toNat (0 : Int)) < (0 : Int))) = false → True) ∧ ((decide (((m.2.2.1.getD (v49).toNat ([] : (List Int))).getD (v55).toNat (0 : Int)) < (0 : Int))) = false → True) ∧ ((decide (((m.2.2.1.getD (v49).toNat ([] : (List Int))).getD (v55).toNat (0 : Int)) < (0 : Int))) = false → True) ∧ ((decide (((m.2.2.1.getD (v49).toNat ([] : (List Int))).getD (v55).toNat (0 : Int)) < (0 : Int))) = false → True) ∧ True ∧ True)) (st' := (⟨86, [(1, [], .v (.c (.ptr 1 0))), (47, [], .v (.c (.p (.sl (.sl (.int .i64))) m.2.2.1))), (48, [], .v (.c (.p (.int .i64) (m.2.2.1.length : Int)))), (49, [], .v (.c (.p (.int .i64) v49))), (53, [], .v (.c (.p (.sl (.int .i64)) (m.2.2.1.getD (v49).toNat ([] : (List Int)))))), (54, [], .v (.c (.p (.int .i64) ((m.2.2.1.getD (v49).toNat ([] : (List Int))).length : Int)))), (55, [], .v (.c (.p (.int .i64) v55))), (66, [], .v (.c (.p .bool ((decide (((m.2.2.1.getD (v49).toNat ([] : (List Int))).getD (v55).toNat (0 : Int)) < (0 : Int))) || (decide (m.1 ≤ ((m.2.2.1.getD (v49).toNat ([] : (List Int))).getD (v55).toNat (0 : Int))))))))], [(1, [], .box [.p (.int .i64) m.1, .p (.int .i64) m.2.1, .p (.sl (.sl (.int .i64))) m.2.2.1, .p (.int .i64) m.2.2.2.1, .p (.int .u32) m.2.2.2.2])]⟩ : St)) (by kernel_rfl) ⟨trivial, trivial, trivial, (fun _ => trivial), (fun _ => trivial), (fun _ => trivial), (fun _ => trivial), trivial, trivial⟩ ?_
                refine awl_nil ?_
                refine thenQ_n ?_
                refine aw_cond (b := ((decide (((m.2.2.1.getD (v49).toNat ([] : (List Int))).getD (v55).toNat (0 : Int)) < (0 : Int))) || (decide (m.1 ≤ ((m.2.2.1.getD (v49).toNat ([] : (List Int))).getD (v55).toNat (0 : Int)))))) (by kernel_rfl) (fun hb => ?_) (fun hb => ?_)
                · have h := h.1 hb
                  refine aw_seq ?_
                  refine aw_region ?_
                  refine awl_runp 1 [2] [] (ob := (True ∧ True)) (st' := (⟨86, [(2, [], .v (.c (.p (.int .i64) (2 : Int))))], []⟩ : St)) (by kernel_rfl) ⟨trivial, trivial⟩ ?_
                  refine awl_nil ?_
                  refine thenQ_n ?_
                  refine aw_ret ?_
                  refine blockQ_r ?_
                  refine thenQ_r ?_
                  refine thenQ_r ?_
                  refine blockQ_r ?_
                  refine blockQ_r ?_
                  refine thenQ_r ?_
                  refine thenQ_r ?_
                  refine blockQ_r ?_
                  refine thenQ_r ?_
                  exact retQ_r (σ := Int) (R := (fun y => [toV1 (.int .i64) y])) (ob := (True ∧ True)) (2 : Int) (by kernel_rfl) ⟨trivial, trivial⟩ h
                · have h := h.2 hb
                  refine aw_skip ?_
                  refine blockQ_n ?_
                  refine thenQ_n ?_
                  refine aw_region ?_
                  obtain ⟨o1, h⟩ := h
                  refine awl_runp 2 [1, 47, 48, 49, 53, 54, 55] [1] (ob := (InR (v55 + (1 : Int)) ∧ True ∧ True)) (st' := (⟨86, [(1, [], .v (.c (.ptr 1 0))), (47, [], .v (.c (.p (.sl (.sl (.int .i64))) m.2.2.1))), (48, [], .v (.c (.p (.int .i64) (m.2.2.1.length : Int)))), (49, [], .v (.c (.p (.int .i64) v49))), (53, [], .v (.c (.p (.sl (.int .i64)) (m.2.2.1.getD (v49).toNat ([] : (List Int)))))), (54, [], .v (.c (.p (.int .i64) ((m.2.2.1.getD (v49).toNat ([] : (List Int))).length : Int)))), (55, [], .v (.c (.p (.int .i64) (v55 + (1 : Int)))))], [(1, [], .box [.p (.int .i64) m.1, .p (.int .i64) m.2.1, .p (.sl (.sl (.int .i64))) m.2.2.1, .p (.int .i64) m.2.2.2.1, .p (.int .u32) m.2.2.2.2])]⟩ : St)) (by kernel_rfl) ⟨o1, trivial, trivial⟩ ?_
                  refine awl_nil ?_
                  exact thenQ_n ⟨(v55 + (1 : Int)), rfl, h⟩
              · have h := h.2 hb
                refine aw_conv [.prune [1, 47, 48, 49] [1]] (st' := (⟨86, [(1, [], .v (.c (.ptr 1 0))), (47, [], .v (.c (.p (.sl (.sl (.int .i64))) m.2.2.1))), (48, [], .v (.c (.p (.int .i64) (m.2.2.1.length : Int)))), (49, [], .v (.c (.p (.int .i64) v49)))], [(1, [], .box [.p (.int .i64) m.1, .p (.int .i64) m.2.1, .p (.sl (.sl (.int .i64))) m.2.2.1, .p (.int .i64) m.2.2.2.1, .p (.int .u32) m.2.2.2.2])]⟩ : St)) (by kernel_rfl) ?_
                refine aw_exit ?_
                refine thenQ_x ?_
                refine thenQ_x ?_
                refine blockQ_hit ?_
                exact rest2 () h
          · have h := h.2 hb
            refine aw_conv [.prune [1] [1]] (st' := (⟨86, [(1, [], .v (.c (.ptr 1 0)))], [(1, [], .box [.p (.int .i64) m.1, .p (.int .i64) m.2.1, .p (.sl (.sl (.int .i64))) m.2.2.1, .p (.int .i64) m.2.2.2.1, .p (.int .u32) m.2.2.2.2])]⟩ : St)) (by kernel_rfl) ?_
            refine aw_exit ?_
            refine thenQ_x ?_
            refine thenQ_x ?_
            refine blockQ_hit ?_
            exact rest1 () h
      · refine aw_block ?_
        refine aw_loop (σ := Int) (fun s => (⟨86, [(1, [], .v (.c (.ptr 1 0))), (34, [], .v (.c (.p (.sl (.sl (.int .i64))) m.2.2.1))), (35, [], .v (.c (.p (.int .i64) (m.2.2.1.length : Int)))), (36, [], .v (.c (.p (.int .i64) s)))], [(1, [], .box [.p (.int .i64) m.1, .p (.int .i64) m.2.1, .p (.sl (.sl (.int .i64))) m.2.2.1, .p (.int .i64) m.2.2.2.1, .p (.int .u32) m.2.2.2.2])]⟩ : St)) (fun s X => VC26_l3 m K s X) (s0 := (0 : Int)) (fun v36 X3 h => ?_) h
        have h : VC26_l3 m K v36 X3 := h
        unfold VC26_l3 at h
        refine aw_seq ?_
        refine aw_region ?_
        refine awl_runp 1 [1, 34, 35, 36, 37] [1] (ob := (True ∧ True)) (st' := (⟨86, [(1, [], .v (.c (.ptr 1 0))), (34, [], .v (.c (.p (.sl (.sl (.int .i64))) m.2.2.1))), (35, [], .v (.c (.p (.int .i64) (m.2.2.1.length : Int)))), (36, [], .v (.c (.p (.int .i64) v36))), (37, [], .v (.c (.p .bool (decide (v36 < (m.2.2.1.length : Int))))))], [(1, [], .box [.p (.int .i64) m.1, .p (.int .i64) m.2.1, .p (.sl (.sl (.int .i64))) m.2.2.1, .p (.int .i64) m.2.2.2.1, .p (.int .u32) m.2.2.2.2])]⟩ : St)) (by kernel_rfl) ⟨trivial, trivial⟩ ?_
        refine awl_nil ?_
        refine thenQ_n ?_
        refine aw_seq ?_
        refine aw_cond (b := (decide (v36 < (m.2.2.1.length : Int)))) (by kernel_rfl) (fun hb => ?_) (fun hb => ?_)
        · have h := h.1 hb
          refine aw_skip ?_
          refine thenQ_n ?_
          refine aw_seq ?_
          refine aw_block ?_
          refine aw_seq ?_
          refine aw_region ?_
          obtain ⟨o1, h⟩ := h
          refine awl_runp 3 [1, 4, 34, 35, 36] [1] (ob := (inIdx v36 m.2.2.1.length ∧ True ∧ True ∧ True)) (st' := (⟨86, [(1, [], .v (.c (.ptr 1 0))), (4, [], .v (.c (.p (.sl (.int .i64)) (m.2.2.1.getD (v36).toNat ([] : (List Int)))))), (34, [], .v (.c (.p (.sl (.sl (.int .i64))) m.2.2.1))), (35, [], .v (.c (.p (.int .i64) (m.2.2.1.length : Int)))), (36, [], .v (.c (.p (.int .i64) v36)))], [(1, [], .box [.p (.int .i64) m.1, .p (.int .i64) m.2.1, .p (.sl (.sl (.int .i64))) m.2.2.1, .p (.int .i64) m.2.2.2.1, .p (.int .u32) m.2.2.2.2])]⟩ : St)) (by kernel_rfl) ⟨o1, trivial, trivial, trivial⟩ ?_
          refine awl_nil ?_
          refine thenQ_n ?_
          refine aw_seq ?_
          refine aw_region ?_
          refine awl_runp 5 [1, 34, 35, 36, 44] [1] (ob := (True ∧ True ∧ True ∧ True ∧ True ∧ True)) (st' := (⟨86, [(1, [], .v (.c (.ptr 1 0))), (34, [], .v (.c (.p (.sl (.sl (.int .i64))) m.2.2.1))), (35, [], .v (.c (.p (.int .i64) (m.2.2.1.length : Int)))), (36, [], .v (.c (.p (.int .i64) v36))), (44, [], .v (.c (.p .bool (!decide (((m.2.2.1.getD (v36).toNat ([] : (List Int))).length : Int) = m.2.1)))))], [(1, [], .box [.p (.int .i64) m.1, .p (.int .i64) m.2.1, .p (.sl (.sl (.int .i64))) m.2.2.1, .p (.int .i64) m.2.2.2.1, .p (.int .u32) m.2.2.2.2])]⟩ : St)) (by kernel_rfl) ⟨trivial, trivial, trivial, trivial, trivial, trivial⟩ ?_
          refine awl_nil ?_
          refine thenQ_n ?_
          refine aw_cond (b := (!decide (((m.2.2.1.getD (v36).toNat ([] : (List Int))).length : Int) = m.2.1))) (by kernel_rfl) (fun hb => ?_) (fun hb => ?_)
          · have h := h.1 hb
            refine aw_seq ?_
            refine aw_region ?_
            refine awl_runp 1 [2] [] (ob := (True ∧ True)) (st' := (⟨86, [(2, [], .v (.c (.p (.int .i64) (3 : Int))))], []⟩ : St)) (by kernel_rfl) ⟨trivial, trivial⟩ ?_
            refine awl_nil ?_
            refine thenQ_n ?_
            refine aw_ret ?_
            refine blockQ_r ?_
            refine thenQ_r ?_
            refine thenQ_r ?_
            refine blockQ_r ?_
            refine thenQ_r ?_
            exact retQ_r (σ := Int) (R := (fun y => [toV1 (.int .i64) y])) (ob := (True ∧ True)) (3 : Int) (by kernel_rfl) ⟨trivial, trivial⟩ h
          · have h := h.2 hb
            refine aw_skip ?_
            refine blockQ_n ?_
            refine thenQ_n ?_
            refine aw_region ?_
            obtain ⟨o1, h⟩ := h
            refine awl_runp 2 [1, 34, 35, 36] [1] (ob := (InR (v36 + (1 : Int)) ∧ True ∧ True)) (st' := (⟨86, [(1, [], .v (.c (.ptr 1 0))), (34, [], .v (.c (.p (.sl (.sl (.int .i64))) m.2.2.1))), (35, [], .v (.c (.p (.int .i64) (m.2.2.1.length : Int)))), (36, [], .v (.c (.p (.int .i64) (v36 + (1 : Int)))))], [(1, [], .box [.p (.int .i64) m.1, .p (.int .i64) m.2.1, .p (.sl (.sl (.int .i64))) m.2.2.1, .p (.int .i64) m.2.2.2.1, .p (.int .u32) m.2.2.2.2])]⟩ : St)) (by kernel_rfl) ⟨o1, trivial, trivial⟩ ?_
            refine awl_nil ?_
            exact thenQ_n ⟨(v36 + (1 : Int)), rfl, h⟩
        · have h := h.2 hb
          refine aw_conv [.prune [1] [1]] (st' := (⟨86, [(1, [], .v (.c (.ptr 1 0)))], [(1, [], .box [.p (.int .i64) m.1, .p (.int .i64) m.2.1, .p (.sl (.sl (.int .i64))) m.2.2.1, .p (.int .i64) m.2.2.2.1, .p (.int .u32) m.2.2.2.2])]⟩ : St)) (by kernel_rfl) ?_
          refine aw_exit ?_
          refine thenQ_x ?_
          refine thenQ_x ?_
          refine blockQ_hit ?_
          exact rest3 () h

-- coppicer/coppicerkeep.whole
def VC29_k1 (m : (Int × (Int × ((List (List Int)) × (Int × Int))))) (K : (Int × (Int × ((List (Int × (Int × Int))) × (Int × Int)))) → Prop) (l6062 : (List (Int × (Int × Int)))) : Prop :=
  K (m.1, (m.2.1, (l6062, ((bShl .u32 (1 : Int) (IntKind.wrap .u64 m.2.2.2.1)), m.2.2.2.2))))

def VC29_k2 (v22 : Int) (X1 : Int × (List (Int × (Int × Int))) → Prop) (l60622 : (List (Int × (Int × Int)))) : Prop :=
  (InR (v22 + (1 : Int)) ∧ X1 ((v22 + (1 : Int)), l60622))

def VC29_l2 (m : (Int × (Int × ((List (List Int)) × (Int × Int))))) (v22 : Int) (X1 : Int × (List (Int × (Int × Int))) → Prop) (v29 : Int) (l60622 : (List (Int × (Int × Int)))) (X2 : Int × (List (Int × (Int × Int))) → Prop) : Prop :=
  (((decide (v29 < ((m.2.2.1.getD (v22).toNat ([] : (List Int))).length : Int))) = true → (inIdx v29 (m.2.2.1.getD (v22).toNat ([] : (List Int))).length ∧ (roomN (l60622.length + [(v22, (v29, ((m.2.2.1.getD (v22).toNat ([] : (List Int))).getD (v29).toNat (0 : Int))))].length) ∧ (InR (v29 + (1 : Int)) ∧ X2 ((v29 + (1 : Int)), (l60622 ++ [(v22, (v29, ((m.2.2.1.getD (v22).toNat ([] : (List Int))).getD (v29).toNat (0 : Int))))])))))) ∧ ((decide (v29 < ((m.2.2.1.getD (v22).toNat ([] : (List Int))).length : Int))) = false → VC29_k2 v22 X1 l60622))

def VC29_l1 (m : (Int × (Int × ((List (List Int)) × (Int × Int))))) (K : (Int × (Int × ((List (Int × (Int × Int))) × (Int × Int)))) → Prop) (v22 : Int) (l6062 : (List (Int × (Int × Int)))) (X1 : Int × (List (Int × (Int × Int))) → Prop) : Prop :=
  (((decide (v22 < (m.2.2.1.length : Int))) = true → (inIdx v22 m.2.2.1.length ∧ Loop (σ := Int × (List (Int × (Int × Int)))) (fun s X => VC29_l2 m v22 X1 s.1 s.2 X) ((0 : Int), l6062))) ∧ ((decide (v22 < (m.2.2.1.length : Int))) = false → VC29_k1 m K l6062))

def VC29 (m : (Int × (Int × ((List (List Int)) × (Int × Int))))) (K : (Int × (Int × ((List (Int × (Int × Int))) × (Int × Int)))) → Prop) : Prop :=
  (0 ≤ (IntKind.wrap .u64 m.2.2.2.1) ∧ Loop (σ := Int × (List (Int × (Int × Int)))) (fun s X => VC29_l1 m K s.1 s.2 X) ((0 : Int), ([] : List (Int × (Int × Int)))))

set_option maxHeartbeats 4000000 in
theorem link29 (m : (Int × (Int × ((List (List Int)) × (Int × Int))))) (K : (Int × (Int × ((List (Int × (Int × Int))) × (Int × Int)))) → Prop) (h : VC29 m K) : ACalls Try.prog 29 [toV1 (.pr (.int .i64) (.pr (.int .i64) (.pr (.sl (.sl (.int .i64))) (.pr (.int .i64) (.int .u32))))) m] (fun res => ∃ y, res = (fun y => [toV1 (.pr (.int .i64) (.pr (.int .i64) (.pr (.sl (.pr (.int .i64) (.pr (.int .i64) (.int .i64)))) (.pr (.int .u32) (.int .u32))))) y]) y ∧ K y) := by
  refine acalls_of_aw [(.pr (.int .i64) (.pr (.int .i64) (.pr (.sl (.pr (.int .i64) (.pr (.int .i64) (.int .i64)))) (.pr (.int .u32) (.int .u32)))))] [.c 2 39] Try.func29 rfl rfl rfl ?_
  unfold VC29 at h
  refine aw_seq ?_
  refine aw_region ?_
  refine awl_runp 2 [1, 2] [1, 2] (ob := (True ∧ True ∧ True)) (st' := (⟨46, [(1, [], .v (.c (.ptr 1 0))), (2, [], .v (.c (.ptr 2 0)))], [(1, [], .box [.p (.int .i64) m.1, .p (.int .i64) m.2.1, .p (.sl (.sl (.int .i64))) m.2.2.1, .p (.int .i64) m.2.2.2.1, .p (.int .u32) m.2.2.2.2]), (2, [], .box [.p (.int .i64) (0 : Int), .p (.int .i64) (0 : Int), .nils, .p (.int .u32) (0 : Int), .p (.int .u32) (0 : Int)])]⟩ : St)) (by kernel_rfl) ⟨trivial, trivial, trivial⟩ ?_
  refine awl_nil ?_
  refine thenQ_n ?_
  refine aw_seq ?_
  refine aw_region ?_
  obtain ⟨o1, h⟩ := h
  refine awl_runp 13 [1, 2, 3] [1, 2, 3] (ob := (True ∧ True ∧ True ∧ True ∧ True ∧ True ∧ True ∧ 0 ≤ (IntKind.wrap .u64 m.2.2.2.1) ∧ True ∧ True ∧ True ∧ True ∧ True ∧ True)) (st' := (⟨46, [(1, [], .v (.c (.ptr 1 0))), (2, [], .v (.c (.ptr 2 0))), (3, [], .v (.c (.ptr 3 0)))], [(1, [], .box [.p (.int .i64) m.1, .p (.int .i64) m.2.1, .p (.sl (.sl (.int .i64))) m.2.2.1, .p (.int .i64) m.2.2.2.1, .p (.int .u32) m.2.2.2.2]), (2, [], .box [.p (.int .i64) (0 : Int), .p (.int .i64) (0 : Int), .nils, .p (.int .u32) (0 : Int), .p (.int .u32) (0 : Int)]), (3, [], .box [.p (.int .i64) m.1, .p (.int .i64) m.2.1, .nils, .p (.int .u32) (bShl .u32 (1 : Int) (IntKind.wrap .u64 m.2.2.2.1)), .p (.int .u32) m.2.2.2.2])]⟩ : St)) (by kernel_rfl) ⟨trivial, trivial, trivial, trivial, trivial, trivial, trivial, o1, trivial, trivial, trivial, trivial, trivial, trivial⟩ ?_
  refine awl_nil ?_
  refine thenQ_n ?_
  refine aw_seq ?_
  refine aw_seq ?_
  refine aw_region ?_
  refine awl_runp 4 [2, 3, 20, 21, 22] [2, 3] (ob := (True ∧ True ∧ True ∧ True ∧ True)) (st' := (⟨46, [(2, [], .v (.c (.ptr 2 0))), (3, [], .v (.c (.ptr 3 0))), (20, [], .v (.c (.p (.sl (.sl (.int .i64))) m.2.2.1))), (21, [], .v (.c (.p (.int .i64) (m.2.2.1.length : Int)))), (22, [], .v (.c (.p (.int .i64) (0 : Int))))], [(2, [], .box [.p (.int .i64) (0 : Int), .p (.int .i64) (0 : Int), .nils, .p (.int .u32) (0 : Int), .p (.int .u32) (0 : Int)]), (3, [], .box [.p (.int .i64) m.1, .p (.int .i64) m.2.1, .nils, .p (.int .u32) (bShl .u32 (1 : Int) (IntKind.wrap .u64 m.2.2.2.1)), .p (.int .u32) m.2.2.2.2])]⟩ : St)) (by kernel_rfl) ⟨trivial, trivial, trivial, trivial, trivial⟩ ?_
  refine awl_nil ?_
  refine thenQ_n ?_
  refine withJoin (σ := (List (Int × (Int × Int)))) (fun s => (⟨46, [(2, [], .v (.c (.ptr 2 0))), (3, [], .v (.c (.ptr 3 0)))], [(2, [], .box [.p (.int .i64) (0 : Int), .p (.int .i64) (0 : Int), .nils, .p (.int .u32) (0 : Int), .p (.int .u32) (0 : Int)]), (3, [], .box [.p (.int .i64) m.1, .p (.int .i64) m.2.1, .own 6062, .p (.int .u32) (bShl .u32 (1 : Int) (IntKind.wrap .u64 m.2.2.2.1)), .p (.int .u32) m.2.2.2.2]), (6062, [], .arr 41 (.pr (.int .i64) (.pr (.int .i64) (.int .i64))) s)]⟩ : St)) (fun s => VC29_k1 m K s) (fun l6062 h => ?_) (fun rest1 => ?_)
  · have h : VC29_k1 m K l6062 := h
    unfold VC29_k1 at h
    refine thenQ_n ?_
    refine aw_seq ?_
    refine aw_region ?_
    refine awl_runp 2 [2] [2, 6062] (ob := (True ∧ True ∧ True)) (st' := (⟨46, [(2, [], .v (.c (.ptr 2 0)))], [(2, [], .box [.p (.int .i64) m.1, .p (.int .i64) m.2.1, .own 6062, .p (.int .u32) (bShl .u32 (1 : Int) (IntKind.wrap .u64 m.2.2.2.1)), .p (.int .u32) m.2.2.2.2]), (6062, [], .arr 41 (.pr (.int .i64) (.pr (.int .i64) (.int .i64))) l6062)]⟩ : St)) (by kernel_rfl) ⟨trivial, trivial, trivial⟩ ?_
    refine awl_nil ?_
    refine thenQ_n ?_
    refine aw_conv [.freeze 6062] (st' := (⟨46, [(2, [], .v (.c (.ptr 2 0)))], [(2, [], .box [.p (.int .i64) m.1, .p (.int .i64) m.2.1, .p (.sl (.pr (.int .i64) (.pr (.int .i64) (.int .i64)))) l6062, .p (.int .u32) (bShl .u32 (1 : Int) (IntKind.wrap .u64 m.2.2.2.1)), .p (.int .u32) m.2.2.2.2])]⟩ : St)) (by kernel_rfl) ?_
    refine aw_ret ?_
    exact retQ_r (σ := (Int × (Int × ((List (Int × (Int × Int))) × (Int × Int))))) (R := (fun y => [toV1 (.pr (.int .i64) (.pr (.int .i64) (.pr (.sl (.pr (.int .i64) (.pr (.int .i64) (.int .i64)))) (.pr (.int .u32) (.int .u32))))) y])) (ob := (True ∧ True)) (m.1, (m.2.1, (l6062, ((bShl .u32 (1 : Int) (IntKind.wrap .u64 m.2.2.2.1)), m.2.2.2.2)))) (by kernel_rfl) ⟨trivial, trivial⟩ h
  · refine aw_block ?_
    refine aw_conv [.nilOwnB 3 2 6062 41 (.pr (.int .i64) (.pr (.int .i64) (.int .i64))), .prune [2, 3, 20, 21, 22] [2, 3, 6062]] (st' := (⟨46, [(2, [], .v (.c (.ptr 2 0))), (3, [], .v (.c (.ptr 3 0))), (20, [], .v (.c (.p (.sl (.sl (.int .i64))) m.2.2.1))), (21, [], .v (.c (.p (.int .i64) (m.2.2.1.length : Int)))), (22, [], .v (.c (.p (.int .i64) (0 : Int))))], [(2, [], .box [.p (.int .i64) (0 : Int), .p (.int .i64) (0 : Int), .nils, .p (.int .u32) (0 : Int), .p (.int .u32) (0 : Int)]), (3, [], .box [.p (.int .i64) m.1, .p (.int .i64) m.2.1, .own 6062, .p (.int .u32) (bShl .u32 (1 : Int) (IntKind.wrap .u64 m.2.2.2.1)), .p (.int .u32) m.2.2.2.2]), (6062, [], .arr 41 (.pr (.int .i64) (.pr (.int .i64) (.int .i64))) ([] : List (Int × (Int × Int))))]⟩ : St)) (by kernel_rfl) ?_
    refine aw_loop (σ := Int × (List (Int × (Int × Int)))) (fun s => (⟨46, [(2, [], .v (.c (.ptr 2 0))), (3, [], .v (.c (.ptr 3 0))), (20, [], .v (.c (.p (.sl (.sl (.int .i64))) m.2.2.1))), (21, [], .v (.c (.p (.int .i64) (m.2.2.1.length : Int)))), (22, [], .v (.c (.p (.int .i64) s.1)))], [(2, [], .box [.p (.int .i64) (0 : Int), .p (.int .i64) (0 : Int), .nils, .p (.int .u32) (0 : Int), .p (.int .u32) (0 : Int)]), (3, [], .box [.p (.int .i64) m.1, .p (.int .i64) m.2.1, .own 6062, .p (.int .u32) (bShl .u32 (1 : Int) (IntKind.wrap .u64 m.2.2.2.1)), .p (.int .u32) m.2.2.2.2]), (6062, [], .arr 41 (.pr (.int .i64) (.pr (.int .i64) (.int .i64))) s.2)]⟩ : St)) (fun s X => VC29_l1 m K s.1 s.2 X) (s0 := ((0 : Int), ([] : List (Int × (Int × Int))))) (fun s X1 h => ?_) h
    obtain ⟨v22, l6062⟩ := s
    have h : VC29_l1 m K v22 l6062 X1 := h
    unfold VC29_l1 at h
    refine aw_seq ?_
    refine aw_region ?_
    refine awl_runp 1 [2, 3, 20, 21, 22, 23] [2, 3, 6062] (ob := (True ∧ True)) (st' := (⟨46, [(2, [], .v (.c (.ptr 2 0))), (3, [], .v (.c (.ptr 3 0))), (20, [], .v (.c (.p (.sl (.sl (.int .i64))) m.2.2.1))), (21, [], .v (.c (.p (.int .i64) (m.2.2.1.length : Int)))), (22, [], .v (.c (.p (.int .i64) v22))), (23, [], .v (.c (.p .bool (decide (v22 < (m.2.2.1.length : Int))))))], [(2, [], .box [.p (.int .i64) (0 : Int), .p (.int .i64) (0 : Int), .nils, .p (.int .u32) (0 : Int), .p (.int .u32) (0 : Int)]), (3, [], .box [.p (.int .i64) m.1, .p (.int .i64) m.2.1, .own 6062, .p (.int .u32) (bShl .u32 (1 : Int) (IntKind.wrap .u64 m.2.2.2.1)), .p (.int .u32) m.2.2.2.2]), (6062, [], .arr 41 (.pr (.int .i64) (.pr (.int .i64) (.int .i64))) l6062)]⟩ : St)) (by kernel_rfl) ⟨trivial, trivial⟩ ?_
    refine awl_nil ?_
    refine thenQ_n ?_
    refine aw_seq ?_
    refine aw_cond (b := (decide (v22 < (m.2.2.1.length : Int)))) (by kernel_rfl) (fun hb => ?_) (fun hb => ?_)
    · have h := h.1 hb
      refine aw_skip ?_
      refine thenQ_n ?_
      refine aw_seq ?_
      refine aw_block ?_
      refine aw_seq ?_
      refine aw_region ?_
      obtain ⟨o1, h⟩ := h
      refine awl_runp 5 [2, 3, 4, 5, 20, 21, 22] [2, 3, 6062] (ob := (True ∧ inIdx v22 m.2.2.1.length ∧ True ∧ True ∧ True ∧ True)) (st' := (⟨46, [(2, [], .v (.c (.ptr 2 0))), (3, [], .v (.c (.ptr 3 0))), (4, [], .v (.c (.p (.int .i64) v22))), (5, [], .v (.c (.p (.sl (.int .i64)) (m.2.2.1.getD (v22).toNat ([] : (List Int)))))), (20, [], .v (.c (.p (.sl (.sl (.int .i64))) m.2.2.1))), (21, [], .v (.c (.p (.int .i64) (m.2.2.1.length : Int)))), (22, [], .v (.c (.p (.int .i64) v22)))], [(2, [], .box [.p (.int .i64) (0 : Int), .p (.int .i64) (0 : Int), .nils, .p (.int .u32) (0 : Int), .p (.int .u32) (0 : Int)]), (3, [], .box [.p (.int .i64) m.1, .p (.int .i64) m.2.1, .own 6062, .p (.int .u32) (bShl .u32 (1 : Int) (IntKind.wrap .u64 m.2.2.2.1)), .p (.int .u32) m.2.2.2.2]), (6062, [], .arr 41 (.pr (.int .i64) (.pr (.int .i64) (.int .i64))) l6062)]⟩ : St)) (by kernel_rfl) ⟨trivial, o1, trivial, trivial, trivial, trivial⟩ ?_
      refine awl_nil ?_
      refine thenQ_n ?_
      refine aw_seq ?_
      refine aw_region ?_
      refine awl_runp 3 [2, 3, 4, 20, 21, 22, 27, 28, 29] [2, 3, 6062] (ob := (True ∧ True ∧ True ∧ True)) (st' := (⟨46, [(2, [], .v (.c (.ptr 2 0))), (3, [], .v (.c (.ptr 3 0))), (4, [], .v (.c (.p (.int .i64) v22))), (20, [], .v (.c (.p (.sl (.sl (.int .i64))) m.2.2.1))), (21, [], .v (.c (.p (.int .i64) (m.2.2.1.length : Int)))), (22, [], .v (.c (.p (.int .i64) v22))), (27, [], .v (.c (.p (.sl (.int .i64)) (m.2.2.1.getD (v22).toNat ([] : (List Int)))))), (28, [], .v (.c (.p (.int .i64) ((m.2.2.1.getD (v22).toNat ([] : (List Int))).length : Int)))), (29, [], .v (.c (.p (.int .i64) (0 : Int))))], [(2, [], .box [.p (.int .i64) (0 : Int), .p (.int .i64) (0 : Int), .nils, .p (.int .u32) (0 : Int), .p (.int .u32) (0 : Int)]), (3, [], .box [.p (.int .i64) m.1, .p (.int .i64) m.2.1, .own 6062, .p (.int .u32) (bShl .u32 (1 : Int) (IntKind.wrap .u64 m.2.2.2.1)), .p (.int .u32) m.2.2.2.2]), (6062, [], .arr 41 (.pr (.int .i64) (.pr (.int .i64) (.int .i64))) l6062)]⟩ : St)) (by kernel_rfl) ⟨trivial, trivial, trivial, trivial⟩ ?_
      refine awl_nil ?_
      refine thenQ_n ?_
      refine withJoin (σ := (List (Int × (Int × Int)))) (fun s => (⟨46, [(2, [], .v (.c (.ptr 2 0))), (3, [], .v (.c (.ptr 3 0))), (20, [], .v (.c (.p (.sl (.sl (.int .i64))) m.2.2.1))), (21, [], .v (.c (.p (.int .i64) (m.2.2.1.length : Int)))), (22, [], .v (.c (.p (.int .i64) v22)))], [(2, [], .box [.p (.int .i64) (0 : Int), .p (.int .i64) (0 : Int), .nils, .p (.int .u32) (0 : Int), .p (.int .u32) (0 : Int)]), (3, [], .box [.p (.int .i64) m.1, .p (.int .i64) m.2.1, .own 6062, .p (.int .u32) (bShl .u32 (1 : Int) (IntKind.wrap .u64 m.2.2.2.1)), .p (.int .u32) m.2.2.2.2]), (6062, [], .arr 41 (.pr (.int .i64) (.pr (.int .i64) (.int .i64))) s)]⟩ : St)) (fun s => VC29_k2 v22 X1 s) (fun l60622 h => ?_) (fun rest2 => ?_)
      · have h : VC29_k2 v22 X1 l60622 := h
        unfold VC29_k2 at h
        refine blockQ_n ?_
        refine thenQ_n ?_
        refine aw_region ?_
        obtain ⟨o1, h⟩ := h
        refine awl_runp 2 [2, 3, 20, 21, 22] [2, 3, 6062] (ob := (InR (v22 + (1 : Int)) ∧ True ∧ True)) (st' := (⟨46, [(2, [], .v (.c (.ptr 2 0))), (3, [], .v (.c (.ptr 3 0))), (20, [], .v (.c (.p (.sl (.sl (.int .i64))) m.2.2.1))), (21, [], .v (.c (.p (.int .i64) (m.2.2.1.length : Int)))), (22, [], .v (.c (.p (.int .i64) (v22 + (1 : Int)))))], [(2, [], .box [.p (.int .i64) (0 : Int), .p (.int .i64) (0 : Int), .nils, .p (.int .u32) (0 : Int), .p (.int .u32) (0 : Int)]), (3, [], .box [.p (.int .i64) m.1, .p (.int .i64) m.2.1, .own 6062, .p (.int .u32) (bShl .u32 (1 : Int) (IntKind.wrap .u64 m.2.2.2.1)), .p (.int .u32) m.2.2.2.2]), (6062, [], .arr 41 (.pr (.int .i64) (.pr (.int .i64) (.int .i64))) l60622)]⟩ : St)) (by kernel_rfl) ⟨o1, trivial, trivial⟩ ?_
        refine awl_nil ?_
        exact thenQ_n ⟨((v22 + (1 : Int)), l60622), rfl, h⟩
      · refine aw_block ?_
        refine aw_loop (σ := Int × (List (Int × (Int × Int)))) (fun s => (⟨46, [(2, [], .v (.c (.ptr 2 0))), (3, [], .v (.c (.ptr 3 0))), (4, [], .v (.c (.p (.int .i64) v22))), (20, [], .v (.c (.p (.sl (.sl (.int .i64))) m.2.2.1))), (21, [], .v (.c (.p (.int .i64) (m.2.2.1.length : Int)))), (22, [], .v (.c (.p (.int .i64) v22))), (27, [], .v (.c (.p (.sl (.int .i64)) (m.2.2.1.getD (v22).toNat ([] : (List Int)))))), (28, [], .v (.c (.p (.int .i64) ((m.2.2.1.getD (v22).toNat ([] : (List Int))).length : Int)))), (29, [], .v (.c (.p (.int .i64) s.1)))], [(2, [], .box [.p (.int .i64) (0 : Int), .p (.int .i64) (0 : Int), .nils, .p (.int .u32) (0 : Int), .p (.int .u32) (0 : Int)]), (3, [], .box [.p (.int .i64) m.1, .p (.int .i64) m.2.1, .own 6062, .p (.int .u32) (bShl .u32 (1 : Int) (IntKind.wrap .u64 m.2.2.2.1)), .p (.int .u32) m.2.2.2.2]), (6062, [], .arr 41 (.pr (.int .i64) (.pr (.int .i64) (.int .i64))) s.2)]⟩ : St)) (fun s X => VC29_l2 m v22 X1 s.1 s.2 X) (s0 := ((0 : Int), l6062)) (fun s X2 h => ?_) h
        obtain ⟨v29, l60622⟩ := s
        have h : VC29_l2 m v22 X1 v29 l60622 X2 := h
        unfold VC29_l2 at h
        refine aw_seq ?_
        refine aw_region ?_
        refine awl_runp 1 [2, 3, 4, 20, 21, 22, 27, 28, 29, 30] [2, 3, 6062] (ob := (True ∧ True)) (st' := (⟨46, [(2, [], .v (.c (.ptr 2 0))), (3, [], .v (.c (.ptr 3 0))), (4, [], .v (.c (.p (.int .i64) v22))), (20, [], .v (.c (.p (.sl (.sl (.int .i64))) m.2.2.1))), (21, [], .v (.c (.p (.int .i64) (m.2.2.1.length : Int)))), (22, [], .v (.c (.p (.int .i64) v22))), (27, [], .v (.c (.p (.sl (.int .i64)) (m.2.2.1.getD (v22).toNat ([] : (List Int)))))), (28, [], .v (.c (.p (.int .i64) ((m.2.2.1.getD (v22).toNat ([] : (List Int))).length : Int)))), (29, [], .v (.c (.p (.int .i64) v29))), (30, [], .v (.c (.p .bool (decide (v29 < ((m.2.2.1.getD (v22).toNat ([] : (List Int))).length : Int))))))], [(2, [], .box [.p (.int .i64) (0 : Int), .p (.int .i64) (0 : Int), .nils, .p (.int .u32) (0 : Int), .p (.int .u32) (0 : Int)]), (3, [], .box [.p (.int .i64) m.1, .p (.int .i64) m.2.1, .own 6062, .p (.int .u32) (bShl .u32 (1 : Int) (IntKind.wrap .u64 m.2.2.2.1)), .p (.int .u32) m.2.2.2.2]), (6062, [], .arr 41 (.pr (.int .i64) (.pr (.int .i64) (.int .i64))) l60622)]⟩ : St)) (by kernel_rfl) ⟨trivial, trivial⟩ ?_
        refine awl_nil ?_
        refine thenQ_n ?_
        refine aw_seq ?_
        refine aw_cond (b := (decide (v29 < ((m.2.2.1.getD (v22).toNat ([] : (List Int))).length : Int)))) (by kernel_rfl) (fun hb => ?_) (fun hb => ?_)
        · have h := h.1 hb
          refine aw_skip ?_
          refine thenQ_n ?_
          refine aw_seq ?_
          refine aw_block ?_
          refine aw_seq ?_
          refine aw_region ?_
          obtain ⟨o1, h⟩ := h
          refine awl_runp 5 [2, 3, 4, 6, 7, 20, 21, 22, 27, 28, 29] [2, 3, 6062] (ob := (True ∧ inIdx v29 (m.2.2.1.getD (v22).toNat ([] : (List Int))).length ∧ True ∧ True ∧ True ∧ True)) (st' := (⟨46, [(2, [], .v (.c (.ptr 2 0))), (3, [], .v (.c (.ptr 3 0))), (4, [], .v (.c (.p (.int .i64) v22))), (6, [], .v (.c (.p (.int .i64) v29))), (7, [], .v (.c (.p (.int .i64) ((m.2.2.1.getD (v22).toNat ([] : (List Int))).getD (v29).toNat (0 : Int))))), (20, [], .v (.c (.p (.sl (.sl (.int .i64))) m.2.2.1))), (21, [], .v (.c (.p (.int .i64) (m.2.2.1.length : Int)))), (22, [], .v (.c (.p (.int .i64) v22))), (27, [], .v (.c (.p (.sl (.int .i64)) (m.2.2.1.getD (v22).toNat ([] : (List Int)))))), (28, [], .v (.c (.p (.int .i64) ((m.2.2.1.getD (v22).toNat ([] : (List Int))).length : Int)))), (29, [], .v (.c (.p (.int .i64) v29)))], [(2, [], .box [.p (.int .i64) (0 : Int), .p (.int .i64) (0 : Int), .nils, .p (.int .u32) (0 : Int), .p (.int .u32) (0 : Int)]), (3, [], .box [.p (.int .i64) m.1, .p (.int .i64) m.2.1, .own 6062, .p (.int .u32) (bShl .u32 (1 : Int) (IntKind.wrap .u64 m.2.2.2.1)), .p (.int .u32) m.2.2.2.2]), (6062, [], .arr 41 (.pr (.int .i64) (.pr (.int .i64) (.int .i64))) l60622)]⟩ : St)) (by kernel_rfl) ⟨trivial, o1, trivial, trivial, trivial, trivial⟩ ?_
          refine awl_nil ?_
          refine thenQ_n ?_
          refine aw_region ?_
          obtain ⟨o1, h⟩ := h
          refine awl_runp 10 [2, 3, 4, 20, 21, 22, 27, 28, 29] [2, 3, 41] (ob := (True ∧ True ∧ True ∧ True ∧ True ∧ True ∧ True ∧ roomN (l60622.length + [(v22, (v29, ((m.2.2.1.getD (v22).toNat ([] : (List Int))).getD (v29).toNat (0 : Int))))].length) ∧ True ∧ True ∧ True)) (st' := (⟨46, [(2, [], .v (.c (.ptr 2 0))), (3, [], .v (.c (.ptr 3 0))), (4, [], .v (.c (.p (.int .i64) v22))), (20, [], .v (.c (.p (.sl (.sl (.int .i64))) m.2.2.1))), (21, [], .v (.c (.p (.int .i64) (m.2.2.1.length : Int)))), (22, [], .v (.c (.p (.int .i64) v22))), (27, [], .v (.c (.p (.sl (.int .i64)) (m.2.2.1.getD (v22).toNat ([] : (List Int)))))), (28, [], .v (.c (.p (.int .i64) ((m.2.2.1.getD (v22).toNat ([] : (List Int))).length : Int)))), (29, [], .v (.c (.p (.int .i64) v29)))], [(2, [], .box [.p (.int .i64) (0 : Int), .p (.int .i64) (0 : Int), .nils, .p (.int .u32) (0 : Int), .p (.int .u32) (0 : Int)]), (3, [], .box [.p (.int .i64) m.1, .p (.int .i64) m.2.1, .own 41, .p (.int .u32) (bShl .u32 (1 : Int) (IntKind.wrap .u64 m.2.2.2.1)), .p (.int .u32) m.2.2.2.2]), (41, [], .arr 41 (.pr (.int .i64) (.pr (.int .i64) (.int .i64))) (l60622 ++ [(v22, (v29, ((m.2.2.1.getD (v22).toNat ([] : (List Int))).getD (v29).toNat (0 : Int))))]))]⟩ : St)) (by kernel_rfl) ⟨trivial, trivial, trivial, trivial, trivial, trivial, trivial, o1, trivial, trivial, trivial⟩ ?_
          refine awl_nil ?_
          refine blockQ_n ?_
          refine thenQ_n ?_
          refine aw_region ?_
          obtain ⟨o1, h⟩ := h
          refine awl_runp 2 [2, 3, 4, 20, 21, 22, 27, 28, 29] [2, 3, 41] (ob := (InR (v29 + (1 : Int)) ∧ True ∧ True)) (st' := (⟨46, [(2, [], .v (.c (.ptr 2 0))), (3, [], .v (.c (.ptr 3 0))), (4, [], .v (.c (.p (.int .i64) v22))), (20, [], .v (.c (.p (.sl (.sl (.int .i64))) m.2.2.1))), (21, [], .v (.c (.p (.int .i64) (m.2.2.1.length : Int)))), (22, [], .v (.c (.p (.int .i64) v22))), (27, [], .v (.c (.p (.sl (.int .i64)) (m.2.2.1.getD (v22).toNat ([] : (List Int)))))), (28, [], .v (.c (.p (.int .i64) ((m.2.2.1.getD (v22).toNat ([] : (List Int))).length : Int)))), (29, [], .v (.c (.p (.int .i64) (v29 + (1 : Int)))))], [(2, [], .box [.p (.int .i64) (0 : Int), .p (.int .i64) (0 : Int), .nils, .p (.int .u32) (0 : Int), .p (.int .u32) (0 : Int)]), (3, [], .box [.p (.int .i64) m.1, .p (.int .i64) m.2.1, .own 41, .p (.int .u32) (bShl .u32 (1 : Int) (IntKind.wrap .u64 m.2.2.2.1)), .p (.int .u32) m.2.2.2.2]), (41, [], .arr 41 (.pr (.int .i64) (.pr (.int .i64) (.int .i64))) (l60622 ++ [(v22, (v29, ((m.2.2.1.getD (v22).toNat ([] : (List Int))).getD (v29).toNat (0 : Int))))]))]⟩ : St)) (by kernel_rfl) ⟨o1, trivial, trivial⟩ ?_
          refine awl_conv [.ren 41 20041, .ren 20041 6062] (st' := (⟨46, [(2, [], .v (.c (.ptr 2 0))), (3, [], .v (.c (.ptr 3 0))), (4, [], .v (.c (.p (.int .i64) v22))), (20, [], .v (.c (.p (.sl (.sl (.int .i64))) m.2.2.1))), (21, [], .v (.c (.p (.int .i64) (m.2.2.1.length : Int)))), (22, [], .v (.c (.p (.int .i64) v22))), (27, [], .v (.c (.p (.sl (.int .i64)) (m.2.2.1.getD (v22).toNat ([] : (List Int)))))), (28, [], .v (.c (.p (.int .i64) ((m.2.2.1.getD (v22).toNat ([] : (List Int))).length : Int)))), (29, [], .v (.c (.p (.int .i64) (v29 + (1 : Int)))))], [(2, [], .box [.p (.int .i64) (0 : Int), .p (.int .i64) (0 : Int), .nils, .p (.int .u32) (0 : Int), .p (.int .u32) (0 : Int)]), (3, [], .box [.p (.int .i64) m.1, .p (.int .i64) m.2.1, .own 6062, .p (.int .u32) (bShl .u32 (1 : Int) (IntKind.wrap .u64 m.2.2.2.1)), .p (.int .u32) m.2.2.2.2]), (6062, [], .arr 41 (.pr (.int .i64) (.pr (.int .i64) (.int .i64))) (l60622 ++ [(v22, (v29, ((m.2.2.1.getD (v22).toNat ([] : (List Int))).getD (v29).toNat (0 : Int))))]))]⟩ : St)) (by kernel_rfl) ?_
          refine awl_nil ?_
          exact thenQ_n ⟨((v29 + (1 : Int)), (l60622 ++ [(v22, (v29, ((m.2.2.1.getD (v22).toNat ([] : (List Int))).getD (v29).toNat (0 : Int))))])), rfl, h⟩
        · have h := h.2 hb
          refine aw_conv [.prune [2, 3, 20, 21, 22] [2, 3, 6062]] (st' := (⟨46, [(2, [], .v (.c (.ptr 2 0))), (3, [], .v (.c (.ptr 3 0))), (20, [], .v (.c (.p (.sl (.sl (.int .i64))) m.2.2.1))), (21, [], .v (.c (.p (.int .i64) (m.2.2.1.length : Int)))), (22, [], .v (.c (.p (.int .i64) v22)))], [(2, [], .box [.p (.int .i64) (0 : Int), .p (.int .i64) (0 : Int), .nils, .p (.int .u32) (0 : Int), .p (.int .u32) (0 : Int)]), (3, [], .box [.p (.int .i64) m.1, .p (.int .i64) m.2.1, .own 6062, .p (.int .u32) (bShl .u32 (1 : Int) (IntKind.wrap .u64 m.2.2.2.1)), .p (.int .u32) m.2.2.2.2]), (6062, [], .arr 41 (.pr (.int .i64) (.pr (.int .i64) (.int .i64))) l60622)]⟩ : St)) (by kernel_rfl) ?_
          refine aw_exit ?_
          refine thenQ_x ?_
          refine thenQ_x ?_
          refine blockQ_hit ?_
          exact rest2 l60622 h
    · have h := h.2 hb
      refine aw_conv [.prune [2, 3] [2, 3, 6062]] (st' := (⟨46, [(2, [], .v (.c (.ptr 2 0))), (3, [], .v (.c (.ptr 3 0)))], [(2, [], .box [.p (.int .i64) (0 : Int), .p (.int .i64) (0 : Int), .nils, .p (.int .u32) (0 : Int), .p (.int .u32) (0 : Int)]), (3, [], .box [.p (.int .i64) m.1, .p (.int .i64) m.2.1, .own 6062, .p (.int .u32) (bShl .u32 (1 : Int) (IntKind.wrap .u64 m.2.2.2.1)), .p (.int .u32) m.2.2.2.2]), (6062, [], .arr 41 (.pr (.int .i64) (.pr (.int .i64) (.int .i64))) l6062)]⟩ : St)) (by kernel_rfl) ?_
      refine aw_exit ?_
      refine thenQ_x ?_
      refine thenQ_x ?_
      refine blockQ_hit ?_
      exact rest1 l6062 h

-- coppicer/net.Check
def VC44_k1 (n : (Int × (Int × ((List (Int × (Int × Int))) × (Int × Int))))) (K : Int → Prop) : Prop :=
  ((0 ≤ (bOr .u32 n.2.2.2.1 n.2.2.2.2) ∧ 0 ≤ n.1) ∧ (((!decide ((bShr .u32 (bOr .u32 n.2.2.2.1 n.2.2.2.2) n.1) = (0 : Int))) = true → K (4 : Int)) ∧ ((!decide ((bShr .u32 (bOr .u32 n.2.2.2.1 n.2.2.2.2) n.1) = (0 : Int))) = false → K (0 : Int))))

def VC44_l1 (n : (Int × (Int × ((List (Int × (Int × Int))) × (Int × Int))))) (K : Int → Prop) (v32 : Int) (X1 : Int → Prop) : Prop :=
  (((decide (v32 < (n.2.2.1.length : Int))) = true → (inIdx v32 n.2.2.1.length ∧ ((((((((decide ((n.2.2.1.getD (v32).toNat ((0 : Int), ((0 : Int), (0 : Int)))).1 < (0 : Int))) || (decide (n.1 ≤ (n.2.2.1.getD (v32).toNat ((0 : Int), ((0 : Int), (0 : Int)))).1))) || (decide ((n.2.2.1.getD (v32).toNat ((0 : Int), ((0 : Int), (0 : Int)))).2.2 < (0 : Int)))) || (decide (n.1 ≤ (n.2.2.1.getD (v32).toNat ((0 : Int), ((0 : Int), (0 : Int)))).2.2))) || (decide ((n.2.2.1.getD (v32).toNat ((0 : Int), ((0 : Int), (0 : Int)))).2.1 < (-1 : Int)))) || (decide (n.2.1 ≤ (n.2.2.1.getD (v32).toNat ((0 : Int), ((0 : Int), (0 : Int)))).2.1))) = true → K (2 : Int)) ∧ (((((((decide ((n.2.2.1.getD (v32).toNat ((0 : Int), ((0 : Int), (0 : Int)))).1 < (0 : Int))) || (decide (n.1 ≤ (n.2.2.1.getD (v32).toNat ((0 : Int), ((0 : Int), (0 : Int)))).1))) || (decide ((n.2.2.1.getD (v32).toNat ((0 : Int), ((0 : Int), (0 : Int)))).2.2 < (0 : Int)))) || (decide (n.1 ≤ (n.2.2.1.getD (v32).toNat ((0 : Int), ((0 : Int), (0 : Int)))).2.2))) || (decide ((n.2.2.1.getD (v32).toNat ((0 : Int), ((0 : Int), (0 : Int)))).2.1 < (-1 : Int)))) || (decide (n.2.1 ≤ (n.2.2.1.getD (v32).toNat ((0 : Int), ((0 : Int), (0 : Int)))).2.1))) = false → (InR (v32 + (1 : Int)) ∧ X1 (v32 + (1 : Int))))))) ∧ ((decide (v32 < (n.2.2.1.length : Int))) = false → VC44_k1 n K))

def VC44 (n : (Int × (Int × ((List (Int × (Int × Int))) × (Int × Int))))) (K : Int → Prop) : Prop :=
  (((((((decide (n.1 < (1 : Int))) || (decide ((7 : Int) < n.1))) || (decide (n.2.1 < (1 : Int)))) || (decide ((3 : Int) < n.2.1))) || (decide ((60 : Int) < (n.2.2.1.length : Int)))) = true → K (1 : Int)) ∧ ((((((decide (n.1 < (1 : Int))) || (decide ((7 : Int) < n.1))) || (decide (n.2.1 < (1 : Int)))) || (decide ((3 : Int) < n.2.1))) || (decide ((60 : Int) < (n.2.2.1.length : Int)))) = false → Loop (σ := Int) (fun s X => VC44_l1 n K s X) (0 : Int)))

set_option maxHeartbeats 4000000 in
theorem link44 (n : (Int × (Int × ((List (Int × (Int × Int))) × (Int × Int))))) (K : Int → Prop) (h : VC44 n K) : ACalls Try.prog 44 [toV1 (.pr (.int .i64) (.pr (.int .i64) (.pr (.sl (.pr (.int .i64) (.pr (.int .i64) (.int .i64)))) (.pr (.int .u32) (.int .u32))))) n] (fun res => ∃ y, res = (fun y => [toV1 (.int .i64) y]) y ∧ K y) := by
  refine acalls_of_aw [(.int .i64)] [.t 2] Try.func44 rfl rfl rfl ?_
  unfold VC44 at h
  refine aw_seq ?_
  refine aw_region ?_
  refine awl_runp 2 [1] [1] (ob := (True ∧ True ∧ True)) (st' := (⟨80, [(1, [], .v (.c (.ptr 1 0)))], [(1, [], .box [.p (.int .i64) n.1, .p (.int .i64) n.2.1, .p (.sl (.pr (.int .i64) (.pr (.int .i64) (.int .i64)))) n.2.2.1, .p (.int .u32) n.2.2.2.1, .p (.int .u32) n.2.2.2.2])]⟩ : St)) (by kernel_rfl) ⟨trivial, trivial, trivial⟩ ?_
  refine awl_nil ?_
  refine thenQ_n ?_
  refine aw_seq ?_
  refine aw_seq ?_
  refine aw_region ?_
  refine awl_runp 24 [1, 28] [1] (ob := (True ∧ True ∧ True ∧ True ∧ ((decide (n.1 < (1 : Int))) = false → True) ∧ ((decide (n.1 < (1 : Int))) = false → True) ∧ ((decide (n.1 < (1 : Int))) = false → True) ∧ True ∧ True ∧ (((decide (n.1 < (1 : Int))) || (decide ((7 : Int) < n.1))) = false → True) ∧ (((decide (n.1 < (1 : Int))) || (decide ((7 : Int) < n.1))) = false → True) ∧ (((decide (n.1 < (1 : Int))) || (decide ((7 : Int) < n.1))) = false → True) ∧ True ∧ True ∧ ((((decide (n.1 < (1 : Int))) || (decide ((7 : Int) < n.1))) || (decide (n.2.1 < (1 : Int)))) = false → True) ∧ ((((decide (n.1 < (1 : Int))) || (decide ((7 : Int) < n.1))) || (decide (n.2.1 < (1 : Int)))) = false → True) ∧ ((((decide (n.1 < (1 : Int))) || (decide ((7 : Int) < n.1))) || (decide (n.2.1 < (1 : Int)))) = false → True) ∧ True ∧ True ∧ (((((decide (n.1 < (1 : Int))) || (decide ((7 : Int) < n.1))) || (decide (n.2.1 < (1 : Int)))) || (decide ((3 : Int) < n.2.1))) = false → True) ∧ (((((decide (n.1 < (1 : Int))) || (decide ((7 : Int) < n.1))) || (decide (n.2.1 < (1 : Int)))) || (decide ((3 : Int) < n.2.1))) = false → True) ∧ (((((decide (n.1 < (1 : Int))) || (decide ((7 : Int) < n.1))) || (decide (n.2.1 < (1 : Int)))) || (decide ((3 : Int) < n.2.1))) = false → True) ∧ (((((decide (n.1 < (1 : Int))) || (decide ((7 : Int) < n.1))) || (decide (n.2.1 < (1 : Int)))) || (decide ((3 : Int) < n.2.1))) = false → True) ∧ True ∧ True)) (st' := (⟨80, [(1, [], .v (.c (.ptr 1 0))), (28, [], .v (.c (.p .bool (((((decide (n.1 < (1 : Int))) || (decide ((7 : Int) < n.1))) || (decide (n.2.1 < (1 : Int)))) || (decide ((3 : Int) < n.2.1))) || (decide ((60 : Int) < (n.2.2.1.length : Int)))))))], [(1, [], .box [.p (.int .i64) n.1, .p (.int .i64) n.2.1, .p (.sl (.pr (.int .i64) (.pr (.int .i64) (.int .i64)))) n.2.2.1, .p (.int .u32) n.2.2.2.1, .p (.int .u32) n.2.2.2.2])]⟩ : St)) (by kernel_rfl) ⟨trivial, trivial, trivial, trivial, (fun _ => trivial), (fun _ => trivial), (fun _ => trivial), trivial, trivial, (fun _ => trivial), (fun _ => trivial), (fun _ => trivial), trivial, trivial, (fun _ => trivial), (fun _ => trivial), (fun _ => trivial), trivial, trivial, (fun _ => trivial), (fun _ => trivial), (fun _ => trivial), (fun _ => trivial), trivial, trivial⟩ ?_
  refine awl_nil ?_
  refine thenQ_n ?_
  refine aw_cond (b := (((((decide (n.1 < (1 : Int))) || (decide ((7 : Int) < n.1))) || (decide (n.2.1 < (1 : Int)))) || (decide ((3 : Int) < n.2.1))) || (decide ((60 : Int) < (n.2.2.1.length : Int))))) (by kernel_rfl) (fun hb => ?_) (fun hb => ?_)
  · have h := h.1 hb
    refine aw_seq ?_
    refine aw_region ?_
    refine awl_runp 1 [2] [] (ob := (True ∧ True)) (st' := (⟨80, [(2, [], .v (.c (.p (.int .i64) (1 : Int))))], []⟩ : St)) (by kernel_rfl) ⟨trivial, trivial⟩ ?_
    refine awl_nil ?_
    refine thenQ_n ?_
    refine aw_ret ?_
    refine thenQ_r ?_
    exact retQ_r (σ := Int) (R := (fun y => [toV1 (.int .i64) y])) (ob := (True ∧ True)) (1 : Int) (by kernel_rfl) ⟨trivial, trivial⟩ h
  · have h := h.2 hb
    refine aw_skip ?_
    refine thenQ_n ?_
    refine aw_seq ?_
    refine aw_seq ?_
    refine aw_region ?_
    refine awl_runp 4 [1, 30, 31, 32] [1] (ob := (True ∧ True ∧ True ∧ True ∧ True)) (st' := (⟨80, [(1, [], .v (.c (.ptr 1 0))), (30, [], .v (.c (.p (.sl (.pr (.int .i64) (.pr (.int .i64) (.int .i64)))) n.2.2.1))), (31, [], .v (.c (.p (.int .i64) (n.2.2.1.length : Int)))), (32, [], .v (.c (.p (.int .i64) (0 : Int))))], [(1, [], .box [.p (.int .i64) n.1, .p (.int .i64) n.2.1, .p (.sl (.pr (.int .i64) (.pr (.int .i64) (.int .i64)))) n.2.2.1, .p (.int .u32) n.2.2.2.1, .p (.int .u32) n.2.2.2.2])]⟩ : St)) (by kernel_rfl) ⟨trivial, trivial, trivial, trivial, trivial⟩ ?_
    refine awl_nil ?_
    refine thenQ_n ?_
    refine withJoin (σ := Unit) (fun s => (⟨80, [(1, [], .v (.c (.ptr 1 0)))], [(1, [], .box [.p (.int .i64) n.1, .p (.int .i64) n.2.1, .p (.sl (.pr (.int .i64) (.pr (.int .i64) (.int .i64)))) n.2.2.1, .p (.int .u32) n.2.2.2.1, .p (.int .u32) n.2.2.2.2])]⟩ : St)) (fun s => VC44_k1 n K) (fun s h => ?_) (fun rest1 => ?_)
    · have h : VC44_k1 n K := h
      unfold VC44_k1 at h
      refine thenQ_n ?_
      refine aw_seq ?_
      refine aw_seq ?_
      refine aw_region ?_
      obtain ⟨o1, h⟩ := h
      refine awl_runp 9 [79] [] (ob := (True ∧ True ∧ True ∧ True ∧ True ∧ True ∧ True ∧ (0 ≤ (bOr .u32 n.2.2.2.1 n.2.2.2.2) ∧ 0 ≤ n.1) ∧ True ∧ True)) (st' := (⟨80, [(79, [], .v (.c (.p .bool (!decide ((bShr .u32 (bOr .u32 n.2.2.2.1 n.2.2.2.2) n.1) = (0 : Int))))))], []⟩ : St)) (by kernel_rfl) ⟨trivial, trivial, trivial, trivial, trivial, trivial, trivial, o1, trivial, trivial⟩ ?_
      refine awl_nil ?_
      refine thenQ_n ?_
      refine aw_cond (b := (!decide ((bShr .u32 (bOr .u32 n.2.2.2.1 n.2.2.2.2) n.1) = (0 : Int)))) (by kernel_rfl) (fun hb => ?_) (fun hb => ?_)
      · have h := h.1 hb
        refine aw_seq ?_
        refine aw_region ?_
        refine awl_runp 1 [2] [] (ob := (True ∧ True)) (st' := (⟨80, [(2, [], .v (.c (.p (.int .i64) (4 : Int))))], []⟩ : St)) (by kernel_rfl) ⟨trivial, trivial⟩ ?_
        refine awl_nil ?_
        refine thenQ_n ?_
        refine aw_ret ?_
        refine thenQ_r ?_
        exact retQ_r (σ := Int) (R := (fun y => [toV1 (.int .i64) y])) (ob := (True ∧ True)) (4 : Int) (by kernel_rfl) ⟨trivial, trivial⟩ h
      · have h := h.2 hb
        refine aw_skip ?_
        refine thenQ_n ?_
        refine aw_seq ?_
        refine aw_region ?_
        refine awl_runp 1 [2] [] (ob := (True ∧ True)) (st' := (⟨80, [(2, [], .v (.c (.p (.int .i64) (0 : Int))))], []⟩ : St)) (by kernel_rfl) ⟨trivial, trivial⟩ ?_
        refine awl_nil ?_
        refine thenQ_n ?_
        refine aw_ret ?_
        exact retQ_r (σ := Int) (R := (fun y => [toV1 (.int .i64) y])) (ob := (True ∧ True)) (0 : Int) (by kernel_rfl) ⟨trivial, trivial⟩ h
    · refine aw_block ?_
      refine aw_loop (σ := Int) (fun s => (⟨80, [(1, [], .v (.c (.ptr 1 0))), (30, [], .v (.c (.p (.sl (.pr (.int .i64) (.pr (.int .i64) (.int .i64)))) n.2.2.1))), (31, [], .v (.c (.p (.int .i64) (n.2.2.1.length : Int)))), (32, [], .v (.c (.p (.int .i64) s)))], [(1, [], .box [.p (.int .i64) n.1, .p (.int .i64) n.2.1, .p (.sl (.pr (.int .i64) (.pr (.int .i64) (.int .i64)))) n.2.2.1, .p (.int .u32) n.2.2.2.1, .p (.int .u32) n.2.2.2.2])]⟩ : St)) (fun s X => VC44_l1 n K s X) (s0 := (0 : Int)) (fun v32 X1 h => ?_) h
      have h : VC44_l1 n K v32 X1 := h
      unfold VC44_l1 at h
      refine aw_seq ?_
      refine aw_region ?_
      refine awl_runp 1 [1, 30, 31, 32, 33] [1] (ob := (True ∧ True)) (st' := (⟨80, [(1, [], .v (.c (.ptr 1 0))), (30, [], .v (.c (.p (.sl (.pr (.int .i64) (.pr (.int .i64) (.int .i64)))) n.2.2.1))), (31, [], .v (.c (.p (.int .i64) (n.2.2.1.length : Int)))), (32, [], .v (.c (.p (.int .i64) v32))), (33, [], .v (.c (.p .bool (decide (v32 < (n.2.2.1.length : Int))))))], [(1, [], .box [.p (.int .i64) n.1, .p (.int .i64) n.2.1, .p (.sl (.pr (.int .i64) (.pr (.int .i64) (.int .i64)))) n.2.2.1, .p (.int .u32) n.2.2.2.1, .p (.int .u32) n.2.2.2.2])]⟩ : St)) (by kernel_rfl) ⟨trivial, trivial⟩ ?_
      refine awl_nil ?_
      refine thenQ_n ?_
      refine aw_seq ?_
      refine aw_cond (b := (decide (v32 < (n.2.2.1.length : Int)))) (by kernel_rfl) (fun hb => ?_) (fun hb => ?_)
      · have h := h.1 hb
        refine aw_skip ?_
        refine thenQ_n ?_
        refine aw_seq ?_
        refine aw_block ?_
        refine aw_seq ?_
        refine aw_region ?_
        obtain ⟨o1, h⟩ := h
        refine awl_runp 4 [1, 4, 30, 31, 32] [1, 4] (ob := (inIdx v32 n.2.2.1.length ∧ True ∧ True ∧ True ∧ True)) (st' := (⟨80, [(1, [], .v (.c (.ptr 1 0))), (4, [], .v (.c (.ptr 4 0))), (30, [], .v (.c (.p (.sl (.pr (.int .i64) (.pr (.int .i64) (.int .i64)))) n.2.2.1))), (31, [], .v (.c (.p (.int .i64) (n.2.2.1.length : Int)))), (32, [], .v (.c (.p (.int .i64) v32)))], [(1, [], .box [.p (.int .i64) n.1, .p (.int .i64) n.2.1, .p (.sl (.pr (.int .i64) (.pr (.int .i64) (.int .i64)))) n.2.2.1, .p (.int .u32) n.2.2.2.1, .p (.int .u32) n.2.2.2.2]), (4, [], .box [.p (.int .i64) ((n.2.2.1.getD (v32).toNat ((0 : Int), ((0 : Int), (0 : Int)))).1), .p (.int .i64) ((n.2.2.1.getD (v32).toNat ((0 : Int), ((0 : Int), (0 : Int)))).2.1), .p (.int .i64) ((n.2.2.1.getD (v32).toNat ((0 : Int), ((0 : Int), (0 : Int)))).2.2)])]⟩ : St)) (by kernel_rfl) ⟨o1, trivial, trivial, trivial, trivial⟩ ?_
        refine awl_nil ?_
        refine thenQ_n ?_
        refine aw_seq ?_
        refine aw_region ?_
        refine awl_runp 34 [1, 30, 31, 32, 69] [1] (ob := (True ∧ True ∧ True ∧ True ∧ ((decide ((n.2.2.1.getD (v32).toNat ((0 : Int), ((0 : Int), (0 : Int)))).1 < (0 : Int))) = false → True) ∧ ((decide ((n.2.2.1.getD (v32).toNat ((0 : Int), ((0 : Int), (0 : Int)))).1 < (0 : Int))) = false → True) ∧ ((decide ((n.2.2.1.getD (v32).toNat ((0 : Int), ((0 : Int), (0 : Int)))).1 < (0 : Int))) = false → True) ∧ ((decide ((n.2.2.1.getD (v32).toNat ((0 : Int), ((0 : Int), (0 : Int)))).1 < (0 : Int))) = false → True) ∧ ((decide ((n.2.2.1.getD (v32).toNat ((0 : Int), ((0 : Int), (0 : Int)))).1 < (0 : Int))) = false → True) ∧ True ∧ True ∧ (((decide ((n.2.2.1.getD (v32).toNat ((0 : Int), ((0 : Int), (0 : Int)))).1 < (0 : Int))) || (decide (n.1 ≤ (n.2.2.1.getD (v32).toNat ((0 : Int), ((0 : Int), (0 : Int)))).1))) = false → True) ∧ (((decide ((n.2.2.1.getD (v32).toNat ((0 : Int), ((0 : Int), (0 : Int)))).1 < (0 : Int))) || (decide (n.1 ≤ (n.2.2.1.getD (v32).toNat ((0 : Int), ((0 : Int), (0 : Int)))).1))) = false → True) ∧ (((decide ((n.2.2.1.getD (v32).toNat ((0 : Int), ((0 : Int), (0 : Int)))).1 < (0 : Int))) || (decide (n.1 ≤ (n.2.2.1.getD (v32).toNat ((0 : Int), ((0 : Int), (0 : Int)))).1))) = false → True) ∧ True ∧ True ∧ ((((decide ((n.2.2.1.getD (v32).toNat ((0 : Int), ((0 : Int), (0 : Int)))).1 < (0 : Int))) || (decide (n.1 ≤ (n.2.2.1.getD (v32).toNat ((0 : Int), ((0 : Int), (0 : Int)))).1))) || (decide ((n.2.2.1.getD (v32).toNat ((0 : Int), ((0 : Int), (0 : Int)))).2.2 < (0 : Int)))) = false → True) ∧ ((((decide ((n.2.2.1.getD (v32).toNat ((0 : Int), ((0 : Int), (0 : Int)))).1 < (0 : Int))) || (decide (n.1 ≤ (n.2.2.1.getD (v32).toNat ((0 : Int), ((0 : Int), (0 : Int)))).1))) || (decide ((n.2.2.1.getD (v32).toNat ((0 : Int), ((0 : Int), (0 : Int)))).2.2 < (0 : Int)))) = false → True) ∧ ((((decide ((n.2.2.1.getD (v32).toNat ((0 : Int), ((0 : Int), (0 : Int)))).1 < (0 : Int))) || (decide (n.1 ≤ (n.2.2.1.getD (v32).toNat ((0 : Int), ((0 : Int), (0 : Int)))).1))) || (decide ((n.2.2.1.getD (v32).toNat ((0 : Int), ((0 : Int), (0 : Int)))).2.2 < (0 : Int)))) = false → True) ∧ ((((decide ((n.2.2.1.getD (v32).toNat ((0 : Int), ((0 : Int), (0 : Int)))).1 < (0 : Int))) || (decide (n.1 ≤ (n.2.2.1.getD (v32).toNat ((0 : Int), ((0 : Int), (0 : Int)))).1))) || (decide ((n.2.2.1.getD (v32).toNat ((0 : Int), ((0 : Int), (0 : Int)))).2.2 < (0 : Int)))) = false → True) ∧ ((((decide ((n.2.2.1.getD (v32).toNat ((0 : Int), ((0 : Int), (0 : Int)))).1 < (0 : Int))) || (decide (n.1 ≤ (n.2.2.1.getD (v32).toNat ((0 : Int), ((0 : Int), (0 : Int)))).1))) || (decide ((n.2.2.1.getD (v32).toNat ((0 : Int), ((0 : Int), (0 : Int)))).2.2 < (0 : Int)))) = false → True) ∧ True ∧ True ∧ (((((decide ((n.2.2.1.getD (v32).toNat ((0 : Int), ((0 : Int), (0 : Int)))).1 < (0 : Int))) || (decide (n.1 ≤ (n.2.2.1.getD (v32).toNat ((0 : Int), ((0 : Int), (0 : Int)))).1))) || (decide ((n.2.2.1.getD (v32).toNat ((0 : Int), ((0 : Int), (0 : Int)))).2.2 < (0 : Int)))) || (decide (n.1 ≤ (n.2.2.1.getD (v32).toNat ((0 : Int), ((0 : Int), (0 : Int)))).2.2))) = false → True) ∧ (((((decide ((n.2.2.1.getD (v32).toNat ((0 : Int), ((0 : Int), (0 : Int)))).1 < (0 : Int))) || (decide (n.1 ≤ (n.2.2.1.getD (v32).toNat ((0 : Int), ((0 : Int), (0 : Int)))).1))) || (decide ((n.2.2.1.getD (v32).toNat ((0 : Int), ((0 : Int), (0 : Int)))).2.2 < (0 : Int)))) || (decide (n.1 ≤ (n.2.2.1.getD (v32).toNat ((0 : Int), ((0 : Int), (0 : Int)))).2.2))) = false → True) ∧ (((((decide ((n.2.2.1.getD (v32).toNat ((0 : Int), ((0 : Int), (0 : Int)))).1 < (0 : Int))) || (decide (n.1 ≤ (n.2.2.1.getD (v32).toNat ((0 : Int), ((0 : Int), (0 : Int)))).1))) || (decide ((n.2.2.1.getD (v32).toNat ((0 : Int), ((0 : Int), (0 : Int)))).2.2 < (0 : Int)))) || (decide (n.1 ≤ (n.2.2.1.getD (v32).toNat ((0 : Int), ((0 : Int), (0 : Int)))).2.2))) = false → True) ∧ True ∧ True ∧ ((((((decide ((n.2.2.1.getD (v32).toNat ((0 : Int), ((0 : Int), (0 : Int)))).1 < (0 : Int))) || (decide (n.1 ≤ (n.2.2.1.getD (v32).toNat ((0 : Int), ((0 : Int), (0 : Int)))).1))) || (decide ((n.2.2.1.getD (v32).toNat ((0 : Int), ((0 : Int), (0 : Int)))).2.2 < (0 : Int)))) || (decide (n.1 ≤ (n.2.2.1.getD (v32).toNat ((0 : Int), ((0 : Int), (0 : Int)))).2.2))) || (decide ((n.2.2.1.getD (v32).toNat ((0 : Int), ((0 : Int), (0 : Int)))).2.1 < (-1 : Int)))) = false → True) ∧ ((((((decide ((n.2.2.1.getD (v32).toNat ((0 : Int), ((0 : Int), (0 : Int)))).1 < (0 : Int))) || (decide (n.1 ≤ (n.2.2.1.getD (v32).toNat ((0 : Int), ((0 : Int), (0 : Int)))).1))) || (decide ((n.2.2.1.getD (v32).toNat ((0 : Int), ((0 : Int), (0 : Int)))).2.2 < (0 : Int)))) || (decide (n.1 ≤ (n.2.2.1.getD (v32).toNat ((0 : Int), ((0 : Int), (0 : Int)))).2.2))) || (decide ((n.2.2.1.getD (v32).toNat ((0 : Int), ((0 : Int), (0 : Int)))).2.1 < (-1 : Int)))) = false → True) ∧ ((((((decide ((n.2.2.1.getD (v32).toNat ((0 : Int), ((0 : Int), (0 : Int)))).1 < (0 : Int))) || (decide (n.1 ≤ (n.2.2.1.getD (v32).toNat ((0 : Int), ((0 : Int), (0 : Int)))).1))) || (decide ((n.2.2.1.getD (v32).toNat ((0 : Int), ((0 : Int), (0 : Int)))).2.2 < (0 : Int)))) || (decide (n.1 ≤ (n.2.2.1.getD (v32).toNat ((0 : Int), ((0 : Int), (0 : Int)))).2.2))) || (decide ((n.2.2.1.getD (v32).toNat ((0 : Int), ((0 : Int), (0 : Int)))).2.1 < (-1 : Int)))) = false → True) ∧ ((((((decide ((n.2.2.1.getD (v32).toNat ((0 : Int), ((0 : Int), (0 : Int)))).1 < (0 : Int))) || (decide (n.1 ≤ (n.2.2.1.getD (v32).toNat ((0 : Int), ((0 : Int), (0 : Int)))).1))) || (decide ((n.2.2.1.getD (v32).toNat ((0 : Int), ((0 : Int), (0 : Int)))).2.2 < (0 : Int)))) || (decide (n.1 ≤ (n.2.2.1.getD (v32).toNat ((0 : Int), ((0 : Int), (0 : Int)))).2.2))) || (decide ((n.2.2.1.getD (v32).toNat ((0 : Int), ((0 : Int), (0 : Int)))).2.1 < (-1 : Int)))) = false → True) ∧ ((((((decide ((n.2.2.1.getD (v32).toNat ((0 : Int), ((0 : Int), (0 : Int)))).1 < (0 : Int))) || (decide (n.1 ≤ (n.2.2.1.getD (v32).toNat ((0 : Int), ((0 : Int), (0 : Int)))).1))) || (decide ((n.2.2.1.getD (v32).toNat ((0 : Int), ((0 : Int), (0 : Int)))).2.2 < (0 : Int)))) || (decide (n.1 ≤ (n.2.2.1.getD (v32).toNat ((0 : Int), ((0 : Int), (0 : Int)))).2.2))) || (decide ((n.2.2.1.getD (v32).toNat ((0 : Int), ((0 : Int), (0 : Int)))).2.1 < (-1 : Int)))) = false → True) ∧ True ∧ True)) (st' := (⟨80, [(1, [], .v (.c (.ptr 1 0))), (30, [], .v (.c (.p (.sl (.pr (.int .i64) (.pr (.int .i64) (.int .i64)))) n.2.2.1))), (31, [], .v (.c (.p (.int .i64) (n.2.2.1.length : Int)))), (32, [], .v (.c (.p (.int .i64) v32))), (69, [], .v (.c (.p .bool ((((((decide ((n.2.2.1.getD (v32).toNat ((0 : Int), ((0 : Int), (0 : Int)))).1 < (0 : Int))) || (decide (n.1 ≤ (n.2.2.1.getD (v32).toNat ((0 : Int), ((0 : Int), (0 : Int)))).1))) || (decide ((n.2.2.1.getD (v32).toNat ((0 : Int), ((0 : Int), (0 : Int)))).2.2 < (0 : Int)))) || (decide (n.1 ≤ (n.2.2.1.getD (v32).toNat ((0 : Int), ((0 : Int), (0 : Int)))).2.2))) || (decide ((n.2.2.1.getD (v32).toNat ((0 : Int), ((0 : Int), (0 : Int)))).2.1 < (-1 : Int)))) || (decide (n.2.1 ≤ (n.2.2.1.getD (v32).toNat ((0 : Int), ((0 : Int), (0 : Int)))).2.1))))))], [(1, [], .box [.p (.int .i64) n.1, .p (.int .i64) n.2.1, .p (.sl (.pr (.int .i64) (.pr (.int .i64) (.int .i64)))) n.2.2.1, .p (.int .u32) n.2.2.2.1, .p (.int .u32) n.2.2.2.2])]⟩ : St)) (by kernel_rfl) ⟨trivial, trivial, trivial, trivial, (fun _ => trivial), (fun _ => trivial), (fun _ => trivial), (fun _ => trivial), (fun _ => trivial), trivial, trivial, (fun _ => trivial), (fun _ => trivial), (fun _ => trivial), trivial, trivial, (fun _ => trivial), (fun _ => trivial), (fun _ => trivial), (fun _ => trivial), (fun _ => trivial), trivial, trivial, (fun _ => trivial), (fun _ => trivial), (fun _ => trivial), trivial, trivial, (fun _ => trivial), (fun _ => trivial), (fun _ => trivial), (fun _ => trivial), (fun _ => trivial), trivial, trivial⟩ ?_
        refine awl_nil ?_
        refine thenQ_n ?_
        refine aw_cond (b := ((((((decide ((n.2.2.1.getD (v32).toNat ((0 : Int), ((0 : Int), (0 : Int)))).1 < (0 : Int))) || (decide (n.1 ≤ (n.2.2.1.getD (v32).toNat ((0 : Int), ((0 : Int), (0 : Int)))).1))) || (decide ((n.2.2.1.getD (v32).toNat ((0 : Int), ((0 : Int), (0 : Int)))).2.2 < (0 : Int)))) || (decide (n.1 ≤ (n.2.2.1.getD (v32).toNat ((0 : Int), ((0 : Int), (0 : Int)))).2.2))) || (decide ((n.2.2.1.getD (v32).toNat ((0 : Int), ((0 : Int), (0 : Int)))).2.1 < (-1 : Int)))) || (decide (n.2.1 ≤ (n.2.2.1.getD (v32).toNat ((0 : Int), ((0 : Int), (0 : Int)))).2.1)))) (by kernel_rfl) (fun hb => ?_) (fun hb => ?_)
        · have h := h.1 hb
          refine aw_seq ?_
          refine aw_region ?_
          refine awl_runp 1 [2] [] (ob := (True ∧ True)) (st' := (⟨80, [(2, [], .v (.c (.p (.int .i64) (2 : Int))))], []⟩ : St)) (by kernel_rfl) ⟨trivial, trivial⟩ ?_
          refine awl_nil ?_
          refine thenQ_n ?_
          refine aw_ret ?_
          refine blockQ_r ?_
          refine thenQ_r ?_
          refine thenQ_r ?_
          refine blockQ_r ?_
          refine thenQ_r ?_
          exact retQ_r (σ := Int) (R := (fun y => [toV1 (.int .i64) y])) (ob := (True ∧ True)) (2 : Int) (by kernel_rfl) ⟨trivial, trivial⟩ h
        · have h := h.2 hb
          refine aw_skip ?_
          refine blockQ_n ?_
          refine thenQ_n ?_
          refine aw_region ?_
          obtain ⟨o1, h⟩ := h
          refine awl_runp 2 [1, 30, 31, 32] [1] (ob := (InR (v32 + (1 : Int)) ∧ True ∧ True)) (st' := (⟨80, [(1, [], .v (.c (.ptr 1 0))), (30, [], .v (.c (.p (.sl (.pr (.int .i64) (.pr (.int .i64) (.int .i64)))) n.2.2.1))), (31, [], .v (.c (.p (.int .i64) (n.2.2.1.length : Int)))), (32, [], .v (.c (.p (.int .i64) (v32 + (1 : Int)))))], [(1, [], .box [.p (.int .i64) n.1, .p (.int .i64) n.2.1, .p (.sl (.pr (.int .i64) (.pr (.int .i64) (.int .i64)))) n.2.2.1, .p (.int .u32) n.2.2.2.1, .p (.int .u32) n.2.2.2.2])]⟩ : St)) (by kernel_rfl) ⟨o1, trivial, trivial⟩ ?_
          refine awl_nil ?_
          exact thenQ_n ⟨(v32 + (1 : Int)), rfl, h⟩
      · have h := h.2 hb
        refine aw_conv [.prune [1] [1]] (st' := (⟨80, [(1, [], .v (.c (.ptr 1 0)))], [(1, [], .box [.p (.int .i64) n.1, .p (.int .i64) n.2.1, .p (.sl (.pr (.int .i64) (.pr (.int .i64) (.int .i64)))) n.2.2.1, .p (.int .u32) n.2.2.2.1, .p (.int .u32) n.2.2.2.2])]⟩ : St)) (by kernel_rfl) ?_
        refine aw_exit ?_
        refine thenQ_x ?_
        refine thenQ_x ?_
        refine blockQ_hit ?_
        exact rest1 () h

-- coppicer/net.Back
def VC23_k1 (n : (Int × (Int × ((List (Int × (Int × Int))) × (Int × Int))))) (K : (Int × (Int × ((List (Int × (Int × Int))) × (Int × Int)))) × Int → Prop) (l6102 : (List (Int × (Int × Int)))) : Prop :=
  K ((n.1, (n.2.1, (l6102, (n.2.2.2.2, n.2.2.2.1)))), (0 : Int))

def VC23_l1 (n : (Int × (Int × ((List (Int × (Int × Int))) × (Int × Int))))) (K : (Int × (Int × ((List (Int × (Int × Int))) × (Int × Int)))) × Int → Prop) (v26 : Int) (l6102 : (List (Int × (Int × Int)))) (X1 : Int × (List (Int × (Int × Int))) → Prop) : Prop :=
  (((decide (v26 < (n.2.2.1.length : Int))) = true → (inIdx v26 n.2.2.1.length ∧ (roomN (l6102.length + [((n.2.2.1.getD (v26).toNat ((0 : Int), ((0 : Int), (0 : Int)))).2.2, ((n.2.2.1.getD (v26).toNat ((0 : Int), ((0 : Int), (0 : Int)))).2.1, (n.2.2.1.getD (v26).toNat ((0 : Int), ((0 : Int), (0 : Int)))).1))].length) ∧ (InR (v26 + (1 : Int)) ∧ X1 ((v26 + (1 : Int)), (l6102 ++ [((n.2.2.1.getD (v26).toNat ((0 : Int), ((0 : Int), (0 : Int)))).2.2, ((n.2.2.1.getD (v26).toNat ((0 : Int), ((0 : Int), (0 : Int)))).2.1, (n.2.2.1.getD (v26).toNat ((0 : Int), ((0 : Int), (0 : Int)))).1))])))))) ∧ ((decide (v26 < (n.2.2.1.length : Int))) = false → VC23_k1 n K l6102))

def VC23 (n : (Int × (Int × ((List (Int × (Int × Int))) × (Int × Int))))) (K : (Int × (Int × ((List (Int × (Int × Int))) × (Int × Int)))) × Int → Prop) : Prop :=
  VC44 n (fun (ret9v : Int) => (((!decide (ret9v = (0 : Int))) = true → K (((0 : Int), ((0 : Int), (([] : (List (Int × (Int × Int)))), ((0 : Int), (0 : Int))))), ret9v)) ∧ ((!decide (ret9v = (0 : Int))) = false → Loop (σ := Int × (List (Int × (Int × Int)))) (fun s X => VC23_l1 n K s.1 s.2 X) ((0 : Int), ([] : List (Int × (Int × Int)))))))

set_option maxHeartbeats 4000000 in
theorem link23 (n : (Int × (Int × ((List (Int × (Int × Int))) × (Int × Int))))) (K : (Int × (Int × ((List (Int × (Int × Int))) × (Int × Int)))) × Int → Prop) (h : VC23 n K) : ACalls Try.prog 23 [toV1 (.pr (.int .i64) (.pr (.int .i64) (.pr (.sl (.pr (.int .i64) (.pr (.int .i64) (.int .i64)))) (.pr (.int .u32) (.int .u32))))) n] (fun res => ∃ y, res = (fun y => [toV1 (.pr (.int .i64) (.pr (.int .i64) (.pr (.sl (.pr (.int .i64) (.pr (.int .i64) (.int .i64)))) (.pr (.int .u32) (.int .u32))))) y.1, toV1 (.int .i64) y.2]) y ∧ K y) := by
  refine acalls_of_aw [(.pr (.int .i64) (.pr (.int .i64) (.pr (.sl (.pr (.int .i64) (.pr (.int .i64) (.int .i64)))) (.pr (.int .u32) (.int .u32))))), (.int .i64)] [.c 2 39, .t 3] Try.func23 rfl rfl rfl ?_
  unfold VC23 at h
  refine aw_seq ?_
  refine aw_region ?_
  refine awl_runp 3 [1, 2] [1, 2] (ob := (True ∧ True ∧ True ∧ True)) (st' := (⟨44, [(1, [], .v (.c (.ptr 1 0))), (2, [], .v (.c (.ptr 2 0)))], [(1, [], .box [.p (.int .i64) n.1, .p (.int .i64) n.2.1, .p (.sl (.pr (.int .i64) (.pr (.int .i64) (.int .i64)))) n.2.2.1, .p (.int .u32) n.2.2.2.1, .p (.int .u32) n.2.2.2.2]), (2, [], .box [.p (.int .i64) (0 : Int), .p (.int .i64) (0 : Int), .nils, .p (.int .u32) (0 : Int), .p (.int .u32) (0 : Int)])]⟩ : St)) (by kernel_rfl) ⟨trivial, trivial, trivial, trivial⟩ ?_
  refine awl_nil ?_
  refine thenQ_n ?_
  refine aw_seq ?_
  refine aw_seq ?_
  refine aw_region ?_
  refine awl_runp 1 [1, 2, 8] [1, 2] (ob := (True ∧ True)) (st' := (⟨44, [(1, [], .v (.c (.ptr 1 0))), (2, [], .v (.c (.ptr 2 0))), (8, [], .v (.agg [.p (.int .i64) n.1, .p (.int .i64) n.2.1, .p (.sl (.pr (.int .i64) (.pr (.int .i64) (.int .i64)))) n.2.2.1, .p (.int .u32) n.2.2.2.1, .p (.int .u32) n.2.2.2.2]))], [(1, [], .box [.p (.int .i64) n.1, .p (.int .i64) n.2.1, .p (.sl (.pr (.int .i64) (.pr (.int .i64) (.int .i64)))) n.2.2.1, .p (.int .u32) n.2.2.2.1, .p (.int .u32) n.2.2.2.2]), (2, [], .box [.p (.int .i64) (0 : Int), .p (.int .i64) (0 : Int), .nils, .p (.int .u32) (0 : Int), .p (.int .u32) (0 : Int)])]⟩ : St)) (by kernel_rfl) ⟨trivial, trivial⟩ ?_
  refine awl_callk (p := []) (l := [toV1 (.pr (.int .i64) (.pr (.int .i64) (.pr (.sl (.pr (.int .i64) (.pr (.int .i64) (.int .i64)))) (.pr (.int .u32) (.int .u32))))) n]) (cl := []) false [.d (.pr (.int .i64) (.pr (.int .i64) (.pr (.sl (.pr (.int .i64) (.pr (.int .i64) (.int .i64)))) (.pr (.int .u32) (.int .u32)))))] [1, 2, 9] [1, 2] (fun (ret9v : Int) => (((!decide (ret9v = (0 : Int))) = true → K (((0 : Int), ((0 : Int), (([] : (List (Int × (Int × Int)))), ((0 : Int), (0 : Int))))), ret9v)) ∧ ((!decide (ret9v = (0 : Int))) = false → Loop (σ := Int × (List (Int × (Int × Int)))) (fun s X => VC23_l1 n K s.1 s.2 X) ((0 : Int), ([] : List (Int × (Int × Int))))))) (fun ret9v => [toV1 (.int .i64) ret9v]) (fun ret9v => (⟨44, [(1, [], .v (.c (.ptr 1 0))), (2, [], .v (.c (.ptr 2 0))), (9, [], .v (.c (.p (.int .i64) ret9v)))], [(1, [], .box [.p (.int .i64) n.1, .p (.int .i64) n.2.1, .p (.sl (.pr (.int .i64) (.pr (.int .i64) (.int .i64)))) n.2.2.1, .p (.int .u32) n.2.2.2.1, .p (.int .u32) n.2.2.2.2]), (2, [], .box [.p (.int .i64) (0 : Int), .p (.int .i64) (0 : Int), .nils, .p (.int .u32) (0 : Int), .p (.int .u32) (0 : Int)])]⟩ : St)) (by kernel_rfl) rfl (by kernel_rfl) rfl (by kernel_rfl) Try.call44 (by kernel_rfl) (fun ret9v => by kernel_rfl) (fun e => by cases e) (fun hg => link44 n _ h) (fun hg => noF hg) (fun ret9v h => ?_)
  have h : (((!decide (ret9v = (0 : Int))) = true → K (((0 : Int), ((0 : Int), (([] : (List (Int × (Int × Int)))), ((0 : Int), (0 : Int))))), ret9v)) ∧ ((!decide (ret9v = (0 : Int))) = false → Loop (σ := Int × (List (Int × (Int × Int)))) (fun s X => VC23_l1 n K s.1 s.2 X) ((0 : Int), ([] : List (Int × (Int × Int)))))) := h
  refine awl_runp 1 [1, 2, 4] [1, 2] (ob := (True ∧ True)) (st' := (⟨44, [(1, [], .v (.c (.ptr 1 0))), (2, [], .v (.c (.ptr 2 0))), (4, [], .v (.c (.p (.int .i64) ret9v)))], [(1, [], .box [.p (.int .i64) n.1, .p (.int .i64) n.2.1, .p (.sl (.pr (.int .i64) (.pr (.int .i64) (.int .i64)))) n.2.2.1, .p (.int .u32) n.2.2.2.1, .p (.int .u32) n.2.2.2.2]), (2, [], .box [.p (.int .i64) (0 : Int), .p (.int .i64) (0 : Int), .nils, .p (.int .u32) (0 : Int), .p (.int .u32) (0 : Int)])]⟩ : St)) (by kernel_rfl) ⟨trivial, trivial⟩ ?_
  refine awl_nil ?_
  refine thenQ_n ?_
  refine aw_seq ?_
  refine aw_region ?_
  refine awl_runp 2 [1, 2, 4, 11] [1, 2] (ob := (True ∧ True ∧ True)) (st' := (⟨44, [(1, [], .v (.c (.ptr 1 0))), (2, [], .v (.c (.ptr 2 0))), (4, [], .v (.c (.p (.int .i64) ret9v))), (11, [], .v (.c (.p .bool (!decide (ret9v = (0 : Int))))))], [(1, [], .box [.p (.int .i64) n.1, .p (.int .i64) n.2.1, .p (.sl (.pr (.int .i64) (.pr (.int .i64) (.int .i64)))) n.2.2.1, .p (.int .u32) n.2.2.2.1, .p (.int .u32) n.2.2.2.2]), (2, [], .box [.p (.int .i64) (0 : Int), .p (.int .i64) (0 : Int), .nils, .p (.int .u32) (0 : Int), .p (.int .u32) (0 : Int)])]⟩ : St)) (by kernel_rfl) ⟨trivial, trivial, trivial⟩ ?_
  refine awl_nil ?_
  refine thenQ_n ?_
  refine aw_cond (b := (!decide (ret9v = (0 : Int)))) (by kernel_rfl) (fun hb => ?_) (fun hb => ?_)
  · have h := h.1 hb
    refine aw_seq ?_
    refine aw_region ?_
    refine awl_runp 4 [2, 3] [2] (ob := (True ∧ True ∧ True ∧ True ∧ True)) (st' := (⟨44, [(2, [], .v (.c (.ptr 2 0))), (3, [], .v (.c (.p (.int .i64) ret9v)))], [(2, [], .box [.p (.int .i64) (0 : Int), .p (.int .i64) (0 : Int), .nils, .p (.int .u32) (0 : Int), .p (.int .u32) (0 : Int)])]⟩ : St)) (by kernel_rfl) ⟨trivial, trivial, trivial, trivial, trivial⟩ ?_
    refine awl_nil ?_
    refine thenQ_n ?_
    refine aw_ret ?_
    refine thenQ_r ?_
    exact retQ_r (σ := (Int × (Int × ((List (Int × (Int × Int))) × (Int × Int)))) × Int) (R := (fun y => [toV1 (.pr (.int .i64) (.pr (.int .i64) (.pr (.sl (.pr (.int .i64) (.pr (.int .i64) (.int .i64)))) (.pr (.int .u32) (.int .u32))))) y.1, toV1 (.int .i64) y.2])) (ob := (True ∧ True ∧ True)) (((0 : Int), ((0 : Int), (([] : (List (Int × (Int × Int)))), ((0 : Int), (0 : Int))))), ret9v) (by kernel_rfl) ⟨trivial, trivial, trivial⟩ h
  · have h := h.2 hb
    refine aw_skip ?_
    refine thenQ_n ?_
    refine aw_seq ?_
    refine aw_region ?_
    refine awl_runp 11 [1, 2, 5] [1, 2, 5] (ob := (True ∧ True ∧ True ∧ True ∧ True ∧ True ∧ True ∧ True ∧ True ∧ True ∧ True ∧ True)) (st' := (⟨44, [(1, [], .v (.c (.ptr 1 0))), (2, [], .v (.c (.ptr 2 0))), (5, [], .v (.c (.ptr 5 0)))], [(1, [], .box [.p (.int .i64) n.1, .p (.int .i64) n.2.1, .p (.sl (.pr (.int .i64) (.pr (.int .i64) (.int .i64)))) n.2.2.1, .p (.int .u32) n.2.2.2.1, .p (.int .u32) n.2.2.2.2]), (2, [], .box [.p (.int .i64) (0 : Int), .p (.int .i64) (0 : Int), .nils, .p (.int .u32) (0 : Int), .p (.int .u32) (0 : Int)]), (5, [], .box [.p (.int .i64) n.1, .p (.int .i64) n.2.1, .nils, .p (.int .u32) n.2.2.2.2, .p (.int .u32) n.2.2.2.1])]⟩ : St)) (by kernel_rfl) ⟨trivial, trivial, trivial, trivial, trivial, trivial, trivial, trivial, trivial, trivial, trivial, trivial⟩ ?_
    refine awl_nil ?_
    refine thenQ_n ?_
    refine aw_seq ?_
    refine aw_seq ?_
    refine aw_region ?_
    refine awl_runp 4 [2, 5, 24, 25, 26] [2, 5] (ob := (True ∧ True ∧ True ∧ True ∧ True)) (st' := (⟨44, [(2, [], .v (.c (.ptr 2 0))), (5, [], .v (.c (.ptr 5 0))), (24, [], .v (.c (.p (.sl (.pr (.int .i64) (.pr (.int .i64) (.int .i64)))) n.2.2.1))), (25, [], .v (.c (.p (.int .i64) (n.2.2.1.length : Int)))), (26, [], .v (.c (.p (.int .i64) (0 : Int))))], [(2, [], .box [.p (.int .i64) (0 : Int), .p (.int .i64) (0 : Int), .nils, .p (.int .u32) (0 : Int), .p (.int .u32) (0 : Int)]), (5, [], .box [.p (.int .i64) n.1, .p (.int .i64) n.2.1, .nils, .p (.int .u32) n.2.2.2.2, .p (.int .u32) n.2.2.2.1])]⟩ : St)) (by kernel_rfl) ⟨trivial, trivial, trivial, trivial, trivial⟩ ?_
    refine awl_nil ?_
    refine thenQ_n ?_
    refine withJoin (σ := (List (Int × (Int × Int)))) (fun s => (⟨44, [(2, [], .v (.c (.ptr 2 0))), (5, [], .v (.c (.ptr 5 0)))], [(2, [], .box [.p (.int .i64) (0 : Int), .p (.int .i64) (0 : Int), .nils, .p (.int .u32) (0 : Int), .p (.int .u32) (0 : Int)]), (5, [], .box [.p (.int .i64) n.1, .p (.int .i64) n.2.1, .own 6102, .p (.int .u32) n.2.2.2.2, .p (.int .u32) n.2.2.2.1]), (6102, [], .arr 41 (.pr (.int .i64) (.pr (.int .i64) (.int .i64))) s)]⟩ : St)) (fun s => VC23_k1 n K s) (fun l6102 h => ?_) (fun rest1 => ?_)
    · have h : VC23_k1 n K l6102 := h
      unfold VC23_k1 at h
      refine thenQ_n ?_
      refine aw_seq ?_
      refine aw_region ?_
      refine awl_runp 3 [2, 3] [2, 6102] (ob := (True ∧ True ∧ True ∧ True)) (st' := (⟨44, [(2, [], .v (.c (.ptr 2 0))), (3, [], .v (.c (.p (.int .i64) (0 : Int))))], [(2, [], .box [.p (.int .i64) n.1, .p (.int .i64) n.2.1, .own 6102, .p (.int .u32) n.2.2.2.2, .p (.int .u32) n.2.2.2.1]), (6102, [], .arr 41 (.pr (.int .i64) (.pr (.int .i64) (.int .i64))) l6102)]⟩ : St)) (by kernel_rfl) ⟨trivial, trivial, trivial, trivial⟩ ?_
      refine awl_nil ?_
      refine thenQ_n ?_
      refine aw_conv [.freeze 6102] (st' := (⟨44, [(2, [], .v (.c (.ptr 2 0))), (3, [], .v (.c (.p (.int .i64) (0 : Int))))], [(2, [], .box [.p (.int .i64) n.1, .p (.int .i64) n.2.1, .p (.sl (.pr (.int .i64) (.pr (.int .i64) (.int .i64)))) l6102, .p (.int .u32) n.2.2.2.2, .p (.int .u32) n.2.2.2.1])]⟩ : St)) (by kernel_rfl) ?_
      refine aw_ret ?_
      exact retQ_r (σ := (Int × (Int × ((List (Int × (Int × Int))) × (Int × Int)))) × Int) (R := (fun y => [toV1 (.pr (.int .i64) (.pr (.int .i64) (.pr (.sl (.pr (.int .i64) (.pr (.int .i64) (.int .i64)))) (.pr (.int .u32) (.int .u32))))) y.1, toV1 (.int .i64) y.2])) (ob := (True ∧ True ∧ True)) ((n.1, (n.2.1, (l6102, (n.2.2.2.2, n.2.2.2.1)))), (0 : Int)) (by kernel_rfl) ⟨trivial, trivial, trivial⟩ h
    · refine aw_block ?_
      refine aw_conv [.nilOwnB 5 2 6102 41 (.pr (.int .i64) (.pr (.int .i64) (.int .i64))), .prune [2, 5, 24, 25, 26] [2, 5, 6102]] (st' := (⟨44, [(2, [], .v (.c (.ptr 2 0))), (5, [], .v (.c (.ptr 5 0))), (24, [], .v (.c (.p (.sl (.pr (.int .i64) (.pr (.int .i64) (.int .i64)))) n.2.2.1))), (25, [], .v (.c (.p (.int .i64) (n.2.2.1.length : Int)))), (26, [], .v (.c (.p (.int .i64) (0 : Int))))], [(2, [], .box [.p (.int .i64) (0 : Int), .p (.int .i64) (0 : Int), .nils, .p (.int .u32) (0 : Int), .p (.int .u32) (0 : Int)]), (5, [], .box [.p (.int .i64) n.1, .p (.int .i64) n.2.1, .own 6102, .p (.int .u32) n.2.2.2.2, .p (.int .u32) n.2.2.2.1]), (6102, [], .arr 41 (.pr (.int .i64) (.pr (.int .i64) (.int .i64))) ([] : List (Int × (Int × Int))))]⟩ : St)) (by kernel_rfl) ?_
      refine aw_loop (σ := Int × (List (Int × (Int × Int)))) (fun s => (⟨44, [(2, [], .v (.c (.ptr 2 0))), (5, [], .v (.c (.ptr 5 0))), (24, [], .v (.c (.p (.sl (.pr (.int .i64) (.pr (.int .i64) (.int .i64)))) n.2.2.1))), (25, [], .v (.c (.p (.int .i64) (n.2.2.1.length : Int)))), (26, [], .v (.c (.p (.int .i64) s.1)))], [(2, [], .box [.p (.int .i64) (0 : Int), .p (.int .i64) (0 : Int), .nils, .p (.int .u32) (0 : Int), .p (.int .u32) (0 : Int)]), (5, [], .box [.p (.int .i64) n.1, .p (.int .i64) n.2.1, .own 6102, .p (.int .u32) n.2.2.2.2, .p (.int .u32) n.2.2.2.1]), (6102, [], .arr 41 (.pr (.int .i64) (.pr (.int .i64) (.int .i64))) s.2)]⟩ : St)) (fun s X => VC23_l1 n K s.1 s.2 X) (s0 := ((0 : Int), ([] : List (Int × (Int × Int))))) (fun s X1 h => ?_) h
      obtain ⟨v26, l6102⟩ := s
      have h : VC23_l1 n K v26 l6102 X1 := h
      unfold VC23_l1 at h
      refine aw_seq ?_
      refine aw_region ?_
      refine awl_runp 1 [2, 5, 24, 25, 26, 27] [2, 5, 6102] (ob := (True ∧ True)) (st' := (⟨44, [(2, [], .v (.c (.ptr 2 0))), (5, [], .v (.c (.ptr 5 0))), (24, [], .v (.c (.p (.sl (.pr (.int .i64) (.pr (.int .i64) (.int .i64)))) n.2.2.1))), (25, [], .v (.c (.p (.int .i64) (n.2.2.1.length : Int)))), (26, [], .v (.c (.p (.int .i64) v26))), (27, [], .v (.c (.p .bool (decide (v26 < (n.2.2.1.length : Int))))))], [(2, [], .box [.p (.int .i64) (0 : Int), .p (.int .i64) (0 : Int), .nils, .p (.int .u32) (0 : Int), .p (.int .u32) (0 : Int)]), (5, [], .box [.p (.int .i64) n.1, .p (.int .i64) n.2.1, .own 6102, .p (.int .u32) n.2.2.2.2, .p (.int .u32) n.2.2.2.1]), (6102, [], .arr 41 (.pr (.int .i64) (.pr (.int .i64) (.int .i64))) l6102)]⟩ : St)) (by kernel_rfl) ⟨trivial, trivial⟩ ?_
      refine awl_nil ?_
      refine thenQ_n ?_
      refine aw_seq ?_
      refine aw_cond (b := (decide (v26 < (n.2.2.1.length : Int)))) (by kernel_rfl) (fun hb => ?_) (fun hb => ?_)
      · have h := h.1 hb
        refine aw_skip ?_
        refine thenQ_n ?_
        refine aw_seq ?_
        refine aw_block ?_
        refine aw_seq ?_
        refine aw_region ?_
        obtain ⟨o1, h⟩ := h
        refine awl_runp 4 [2, 5, 7, 24, 25, 26] [2, 5, 7, 6102] (ob := (inIdx v26 n.2.2.1.length ∧ True ∧ True ∧ True ∧ True)) (st' := (⟨44, [(2, [], .v (.c (.ptr 2 0))), (5, [], .v (.c (.ptr 5 0))), (7, [], .v (.c (.ptr 7 0))), (24, [], .v (.c (.p (.sl (.pr (.int .i64) (.pr (.int .i64) (.int .i64)))) n.2.2.1))), (25, [], .v (.c (.p (.int .i64) (n.2.2.1.length : Int)))), (26, [], .v (.c (.p (.int .i64) v26)))], [(2, [], .box [.p (.int .i64) (0 : Int), .p (.int .i64) (0 : Int), .nils, .p (.int .u32) (0 : Int), .p (.int .u32) (0 : Int)]), (5, [], .box [.p (.int .i64) n.1, .p (.int .i64) n.2.1, .own 6102, .p (.int .u32) n.2.2.2.2, .p (.int .u32) n.2.2.2.1]), (7, [], .box [.p (.int .i64) ((n.2.2.1.getD (v26).toNat ((0 : Int), ((0 : Int), (0 : Int)))).1), .p (.int .i64) ((n.2.2.1.getD (v26).toNat ((0 : Int), ((0 : Int), (0 : Int)))).2.1), .p (.int .i64) ((n.2.2.1.getD (v26).toNat ((0 : Int), ((0 : Int), (0 : Int)))).2.2)]), (6102, [], .arr 41 (.pr (.int .i64) (.pr (.int .i64) (.int .i64))) l6102)]⟩ : St)) (by kernel_rfl) ⟨o1, trivial, trivial, trivial, trivial⟩ ?_
        refine awl_nil ?_
        refine thenQ_n ?_
        refine aw_region ?_
        obtain ⟨o1, h⟩ := h
        refine awl_runp 13 [2, 5, 24, 25, 26] [2, 5, 40] (ob := (True ∧ True ∧ True ∧ True ∧ True ∧ True ∧ True ∧ True ∧ True ∧ True ∧ roomN (l6102.length + [((n.2.2.1.getD (v26).toNat ((0 : Int), ((0 : Int), (0 : Int)))).2.2, ((n.2.2.1.getD (v26).toNat ((0 : Int), ((0 : Int), (0 : Int)))).2.1, (n.2.2.1.getD (v26).toNat ((0 : Int), ((0 : Int), (0 : Int)))).1))].length) ∧ True ∧ True ∧ True)) (st' := (⟨44, [(2, [], .v (.c (.ptr 2 0))), (5, [], .v (.c (.ptr 5 0))), (24, [], .v (.c (.p (.sl (.pr (.int .i64) (.pr (.int .i64) (.int .i64)))) n.2.2.1))), (25, [], .v (.c (.p (.int .i64) (n.2.2.1.length : Int)))), (26, [], .v (.c (.p (.int .i64) v26)))], [(2, [], .box [.p (.int .i64) (0 : Int), .p (.int .i64) (0 : Int), .nils, .p (.int .u32) (0 : Int), .p (.int .u32) (0 : Int)]), (5, [], .box [.p (.int .i64) n.1, .p (.int .i64) n.2.1, .own 40, .p (.int .u32) n.2.2.2.2, .p (.int .u32) n.2.2.2.1]), (40, [], .arr 41 (.pr (.int .i64) (.pr (.int .i64) (.int .i64))) (l6102 ++ [((n.2.2.1.getD (v26).toNat ((0 : Int), ((0 : Int), (0 : Int)))).2.2, ((n.2.2.1.getD (v26).toNat ((0 : Int), ((0 : Int), (0 : Int)))).2.1, (n.2.2.1.getD (v26).toNat ((0 : Int), ((0 : Int), (0 : Int)))).1))]))]⟩ : St)) (by kernel_rfl) ⟨trivial, trivial, trivial, trivial, trivial, trivial, trivial, trivial, trivial, trivial, o1, trivial, trivial, trivial⟩ ?_
        refine awl_nil ?_
        refine blockQ_n ?_
        refine thenQ_n ?_
        refine aw_region ?_
        obtain ⟨o1, h⟩ := h
        refine awl_runp 2 [2, 5, 24, 25, 26] [2, 5, 40] (ob := (InR (v26 + (1 : Int)) ∧ True ∧ True)) (st' := (⟨44, [(2, [], .v (.c (.ptr 2 0))), (5, [], .v (.c (.ptr 5 0))), (24, [], .v (.c (.p (.sl (.pr (.int .i64) (.pr (.int .i64) (.int .i64)))) n.2.2.1))), (25, [], .v (.c (.p (.int .i64) (n.2.2.1.length : Int)))), (26, [], .v (.c (.p (.int .i64) (v26 + (1 : Int)))))], [(2, [], .box [.p (.int .i64) (0 : Int), .p (.int .i64) (0 : Int), .nils, .p (.int .u32) (0 : Int), .p (.int .u32) (0 : Int)]), (5, [], .box [.p (.int .i64) n.1, .p (.int .i64) n.2.1, .own 40, .p (.int .u32) n.2.2.2.2, .p (.int .u32) n.2.2.2.1]), (40, [], .arr 41 (.pr (.int .i64) (.pr (.int .i64) (.int .i64))) (l6102 ++ [((n.2.2.1.getD (v26).toNat ((0 : Int), ((0 : Int), (0 : Int)))).2.2, ((n.2.2.1.getD (v26).toNat ((0 : Int), ((0 : Int), (0 : Int)))).2.1, (n.2.2.1.getD (v26).toNat ((0 : Int), ((0 : Int), (0 : Int)))).1))]))]⟩ : St)) (by kernel_rfl) ⟨o1, trivial, trivial⟩ ?_
        refine awl_conv [.ren 40 20040, .ren 20040 6102] (st' := (⟨44, [(2, [], .v (.c (.ptr 2 0))), (5, [], .v (.c (.ptr 5 0))), (24, [], .v (.c (.p (.sl (.pr (.int .i64) (.pr (.int .i64) (.int .i64)))) n.2.2.1))), (25, [], .v (.c (.p (.int .i64) (n.2.2.1.length : Int)))), (26, [], .v (.c (.p (.int .i64) (v26 + (1 : Int)))))], [(2, [], .box [.p (.int .i64) (0 : Int), .p (.int .i64) (0 : Int), .nils, .p (.int .u32) (0 : Int), .p (.int .u32) (0 : Int)]), (5, [], .box [.p (.int .i64) n.1, .p (.int .i64) n.2.1, .own 6102, .p (.int .u32) n.2.2.2.2, .p (.int .u32) n.2.2.2.1]), (6102, [], .arr 41 (.pr (.int .i64) (.pr (.int .i64) (.int .i64))) (l6102 ++ [((n.2.2.1.getD (v26).toNat ((0 : Int), ((0 : Int), (0 : Int)))).2.2, ((n.2.2.1.getD (v26).toNat ((0 : Int), ((0 : Int), (0 : Int)))).2.1, (n.2.2.1.getD (v26).toNat ((0 : Int), ((0 : Int), (0 : Int)))).1))]))]⟩ : St)) (by kernel_rfl) ?_
        refine awl_nil ?_
        exact thenQ_n ⟨((v26 + (1 : Int)), (l6102 ++ [((n.2.2.1.getD (v26).toNat ((0 : Int), ((0 : Int), (0 : Int)))).2.2, ((n.2.2.1.getD (v26).toNat ((0 : Int), ((0 : Int), (0 : Int)))).2.1, (n.2.2.1.getD (v26).toNat ((0 : Int), ((0 : Int), (0 : Int)))).1))])), rfl, h⟩
      · have h := h.2 hb
        refine aw_conv [.prune [2, 5] [2, 5, 6102]] (st' := (⟨44, [(2, [], .v (.c (.ptr 2 0))), (5, [], .v (.c (.ptr 5 0)))], [(2, [], .box [.p (.int .i64) (0 : Int), .p (.int .i64) (0 : Int), .nils, .p (.int .u32) (0 : Int), .p (.int .u32) (0 : Int)]), (5, [], .box [.p (.int .i64) n.1, .p (.int .i64) n.2.1, .own 6102, .p (.int .u32) n.2.2.2.2, .p (.int .u32) n.2.2.2.1]), (6102, [], .arr 41 (.pr (.int .i64) (.pr (.int .i64) (.int .i64))) l6102)]⟩ : St)) (by kernel_rfl) ?_
        refine aw_exit ?_
        refine thenQ_x ?_
        refine thenQ_x ?_
        refine blockQ_hit ?_
        exact rest1 l6102 h

-- coppicer/net.still
def VC45_k1 (K : Int → Prop) (setv2 : Int) (X1 : Int → Prop) (setv3 : Int) : Prop :=
  (((decide (setv3 = setv2)) = true → K setv3) ∧ ((decide (setv3 = setv2)) = false → X1 setv3))

def VC45_k2 (v12 : Int) (X2 : Int × Int → Prop) (setv4 : Int) : Prop :=
  (InR (v12 + (1 : Int)) ∧ X2 (setv4, (v12 + (1 : Int))))

def VC45_l2 (n : (Int × (Int × ((List (Int × (Int × Int))) × (Int × Int))))) (K : Int → Prop) (setv2 : Int) (X1 : Int → Prop) (setv3 : Int) (v12 : Int) (X2 : Int × Int → Prop) : Prop :=
  (((decide (v12 < (n.2.2.1.length : Int))) = true → (inIdx v12 n.2.2.1.length ∧ gcall (α := Bool) (decide ((n.2.2.1.getD (v12).toNat ((0 : Int), ((0 : Int), (0 : Int)))).2.1 < (0 : Int))) (VC42 setv3 ((n.2.2.1.getD (v12).toNat ((0 : Int), ((0 : Int), (0 : Int)))).1)) false (fun (ret23v : Bool) => ((((decide ((n.2.2.1.getD (v12).toNat ((0 : Int), ((0 : Int), (0 : Int)))).2.1 < (0 : Int))) && ret23v) = true → (0 ≤ (n.2.2.1.getD (v12).toNat ((0 : Int), ((0 : Int), (0 : Int)))).2.2 ∧ VC45_k2 v12 X2 (bOr .u32 setv3 (bShl .u32 (1 : Int) ((n.2.2.1.getD (v12).toNat ((0 : Int), ((0 : Int), (0 : Int)))).2.2))))) ∧ (((decide ((n.2.2.1.getD (v12).toNat ((0 : Int), ((0 : Int), (0 : Int)))).2.1 < (0 : Int))) && ret23v) = false → VC45_k2 v12 X2 setv3))))) ∧ ((decide (v12 < (n.2.2.1.length : Int))) = false → VC45_k1 K setv2 X1 setv3))

def VC45_l1 (n : (Int × (Int × ((List (Int × (Int × Int))) × (Int × Int))))) (K : Int → Prop) (setv2 : Int) (X1 : Int → Prop) : Prop :=
  Loop (σ := Int × Int) (fun s X => VC45_l2 n K setv2 X1 s.1 s.2 X) (setv2, (0 : Int))

def VC45 (n : (Int × (Int × ((List (Int × (Int × Int))) × (Int × Int))))) (setv : Int) (K : Int → Prop) : Prop :=
  Loop (σ := Int) (fun s X => VC45_l1 n K s X) setv

set_option maxHeartbeats 4000000 in
theorem link45 (n : (Int × (Int × ((List (Int × (Int × Int))) × (Int × Int))))) (setv : Int) (K : Int → Prop) (h : VC45 n setv K) : ACalls Try.prog 45 [toV1 (.pr (.int .i64) (.pr (.int .i64) (.pr (.sl (.pr (.int .i64) (.pr (.int .i64) (.int .i64)))) (.pr (.int .u32) (.int .u32))))) n, toV1 (.int .u32) setv] (fun res => ∃ y, res = (fun y => [toV1 (.int .u32) y]) y ∧ K y) := by
  refine acalls_of_aw [(.int .u32)] [.t 4] Try.func45 rfl rfl rfl ?_
  unfold VC45 at h
  refine aw_seq ?_
  refine aw_region ?_
  refine awl_runp 2 [1, 2] [2] (ob := (True ∧ True ∧ True)) (st' := (⟨35, [(1, [], .v (.c (.p (.int .u32) setv))), (2, [], .v (.c (.ptr 2 0)))], [(2, [], .box [.p (.int .i64) n.1, .p (.int .i64) n.2.1, .p (.sl (.pr (.int .i64) (.pr (.int .i64) (.int .i64)))) n.2.2.1, .p (.int .u32) n.2.2.2.1, .p (.int .u32) n.2.2.2.2])]⟩ : St)) (by kernel_rfl) ⟨trivial, trivial, trivial⟩ ?_
  refine awl_nil ?_
  refine thenQ_n ?_
  refine aw_block ?_
  refine aw_loop (σ := Int) (fun s => (⟨35, [(1, [], .v (.c (.p (.int .u32) s))), (2, [], .v (.c (.ptr 2 0)))], [(2, [], .box [.p (.int .i64) n.1, .p (.int .i64) n.2.1, .p (.sl (.pr (.int .i64) (.pr (.int .i64) (.int .i64)))) n.2.2.1, .p (.int .u32) n.2.2.2.1, .p (.int .u32) n.2.2.2.2])]⟩ : St)) (fun s X => VC45_l1 n K s X) (s0 := setv) (fun setv2 X1 h => ?_) h
  have h : VC45_l1 n K setv2 X1 := h
  unfold VC45_l1 at h
  refine aw_block ?_
  refine aw_seq ?_
  refine aw_region ?_
  refine awl_runp 2 [1, 2, 5] [2] (ob := (True ∧ True ∧ True)) (st' := (⟨35, [(1, [], .v (.c (.p (.int .u32) setv2))), (2, [], .v (.c (.ptr 2 0))), (5, [], .v (.c (.p (.int .u32) setv2)))], [(2, [], .box [.p (.int .i64) n.1, .p (.int .i64) n.2.1, .p (.sl (.pr (.int .i64) (.pr (.int .i64) (.int .i64)))) n.2.2.1, .p (.int .u32) n.2.2.2.1, .p (.int .u32) n.2.2.2.2])]⟩ : St)) (by kernel_rfl) ⟨trivial, trivial, trivial⟩ ?_
  refine awl_nil ?_
  refine thenQ_n ?_
  refine aw_seq ?_
  refine aw_seq ?_
  refine aw_region ?_
  refine awl_runp 4 [1, 2, 5, 10, 11, 12] [2] (ob := (True ∧ True ∧ True ∧ True ∧ True)) (st' := (⟨35, [(1, [], .v (.c (.p (.int .u32) setv2))), (2, [], .v (.c (.ptr 2 0))), (5, [], .v (.c (.p (.int .u32) setv2))), (10, [], .v (.c (.p (.sl (.pr (.int .i64) (.pr (.int .i64) (.int .i64)))) n.2.2.1))), (11, [], .v (.c (.p (.int .i64) (n.2.2.1.length : Int)))), (12, [], .v (.c (.p (.int .i64) (0 : Int))))], [(2, [], .box [.p (.int .i64) n.1, .p (.int .i64) n.2.1, .p (.sl (.pr (.int .i64) (.pr (.int .i64) (.int .i64)))) n.2.2.1, .p (.int .u32) n.2.2.2.1, .p (.int .u32) n.2.2.2.2])]⟩ : St)) (by kernel_rfl) ⟨trivial, trivial, trivial, trivial, trivial⟩ ?_
  refine awl_nil ?_
  refine thenQ_n ?_
  refine withJoin (σ := Int) (fun s => (⟨35, [(1, [], .v (.c (.p (.int .u32) s))), (2, [], .v (.c (.ptr 2 0))), (5, [], .v (.c (.p (.int .u32) setv2)))], [(2, [], .box [.p (.int .i64) n.1, .p (.int .i64) n.2.1, .p (.sl (.pr (.int .i64) (.pr (.int .i64) (.int .i64)))) n.2.2.1, .p (.int .u32) n.2.2.2.1, .p (.int .u32) n.2.2.2.2])]⟩ : St)) (fun s => VC45_k1 K setv2 X1 s) (fun setv3 h => ?_) (fun rest1 => ?_)
  · have h : VC45_k1 K setv2 X1 setv3 := h
    unfold VC45_k1 at h
    refine thenQ_n ?_
    refine aw_seq ?_
    refine aw_region ?_
    refine awl_runp 3 [1, 2, 33] [2] (ob := (True ∧ True ∧ True ∧ True)) (st' := (⟨35, [(1, [], .v (.c (.p (.int .u32) setv3))), (2, [], .v (.c (.ptr 2 0))), (33, [], .v (.c (.p .bool (decide (setv3 = setv2)))))], [(2, [], .box [.p (.int .i64) n.1, .p (.int .i64) n.2.1, .p (.sl (.pr (.int .i64) (.pr (.int .i64) (.int .i64)))) n.2.2.1, .p (.int .u32) n.2.2.2.1, .p (.int .u32) n.2.2.2.2])]⟩ : St)) (by kernel_rfl) ⟨trivial, trivial, trivial, trivial⟩ ?_
    refine awl_nil ?_
    refine thenQ_n ?_
    refine aw_cond (b := (decide (setv3 = setv2))) (by kernel_rfl) (fun hb => ?_) (fun hb => ?_)
    · have h := h.1 hb
      refine aw_seq ?_
      refine aw_region ?_
      refine awl_runp 2 [4] [] (ob := (True ∧ True ∧ True)) (st' := (⟨35, [(4, [], .v (.c (.p (.int .u32) setv3)))], []⟩ : St)) (by kernel_rfl) ⟨trivial, trivial, trivial⟩ ?_
      refine awl_nil ?_
      refine thenQ_n ?_
      refine aw_ret ?_
      refine blockQ_r ?_
      refine thenQ_r ?_
      refine blockQ_r ?_
      exact retQ_r (σ := Int) (R := (fun y => [toV1 (.int .u32) y])) (ob := (True ∧ True)) setv3 (by kernel_rfl) ⟨trivial, trivial⟩ h
    · have h := h.2 hb
      refine aw_conv [.prune [1, 2] [2]] (st' := (⟨35, [(1, [], .v (.c (.p (.int .u32) setv3))), (2, [], .v (.c (.ptr 2 0)))], [(2, [], .box [.p (.int .i64) n.1, .p (.int .i64) n.2.1, .p (.sl (.pr (.int .i64) (.pr (.int .i64) (.int .i64)))) n.2.2.1, .p (.int .u32) n.2.2.2.1, .p (.int .u32) n.2.2.2.2])]⟩ : St)) (by kernel_rfl) ?_
      refine aw_skip ?_
      refine blockQ_n ?_
      exact thenQ_n ⟨setv3, rfl, h⟩
  · refine aw_block ?_
    refine aw_loop (σ := Int × Int) (fun s => (⟨35, [(1, [], .v (.c (.p (.int .u32) s.1))), (2, [], .v (.c (.ptr 2 0))), (5, [], .v (.c (.p (.int .u32) setv2))), (10, [], .v (.c (.p (.sl (.pr (.int .i64) (.pr (.int .i64) (.int .i64)))) n.2.2.1))), (11, [], .v (.c (.p (.int .i64) (n.2.2.1.length : Int)))), (12, [], .v (.c (.p (.int .i64) s.2)))], [(2, [], .box [.p (.int .i64) n.1, .p (.int .i64) n.2.1, .p (.sl (.pr (.int .i64) (.pr (.int .i64) (.int .i64)))) n.2.2.1, .p (.int .u32) n.2.2.2.1, .p (.int .u32) n.2.2.2.2])]⟩ : St)) (fun s X => VC45_l2 n K setv2 X1 s.1 s.2 X) (s0 := (setv2, (0 : Int))) (fun s X2 h => ?_) h
    obtain ⟨setv3, v12⟩ := s
    have h : VC45_l2 n K setv2 X1 setv3 v12 X2 := h
    unfold VC45_l2 at h
    refine aw_seq ?_
    refine aw_region ?_
    refine awl_runp 1 [1, 2, 5, 10, 11, 12, 13] [2] (ob := (True ∧ True)) (st' := (⟨35, [(1, [], .v (.c (.p (.int .u32) setv3))), (2, [], .v (.c (.ptr 2 0))), (5, [], .v (.c (.p (.int .u32) setv2))), (10, [], .v (.c (.p (.sl (.pr (.int .i64) (.pr (.int .i64) (.int .i64)))) n.2.2.1))), (11, [], .v (.c (.p (.int .i64) (n.2.2.1.length : Int)))), (12, [], .v (.c (.p (.int .i64) v12))), (13, [], .v (.c (.p .bool (decide (v12 < (n.2.2.1.length : Int))))))], [(2, [], .box [.p (.int .i64) n.1, .p (.int .i64) n.2.1, .p (.sl (.pr (.int .i64) (.pr (.int .i64) (.int .i64)))) n.2.2.1, .p (.int .u32) n.2.2.2.1, .p (.int .u32) n.2.2.2.2])]⟩ : St)) (by kernel_rfl) ⟨trivial, trivial⟩ ?_
    refine awl_nil ?_
    refine thenQ_n ?_
    refine aw_seq ?_
    refine aw_cond (b := (decide (v12 < (n.2.2.1.length : Int)))) (by kernel_rfl) (fun hb => ?_) (fun hb => ?_)
    · have h := h.1 hb
      refine aw_skip ?_
      refine thenQ_n ?_
      refine aw_seq ?_
      refine aw_block ?_
      refine aw_seq ?_
      refine aw_region ?_
      obtain ⟨o1, h⟩ := h
      refine awl_runp 4 [1, 2, 5, 7, 10, 11, 12] [2, 7] (ob := (inIdx v12 n.2.2.1.length ∧ True ∧ True ∧ True ∧ True)) (st' := (⟨35, [(1, [], .v (.c (.p (.int .u32) setv3))), (2, [], .v (.c (.ptr 2 0))), (5, [], .v (.c (.p (.int .u32) setv2))), (7, [], .v (.c (.ptr 7 0))), (10, [], .v (.c (.p (.sl (.pr (.int .i64) (.pr (.int .i64) (.int .i64)))) n.2.2.1))), (11, [], .v (.c (.p (.int .i64) (n.2.2.1.length : Int)))), (12, [], .v (.c (.p (.int .i64) v12)))], [(2, [], .box [.p (.int .i64) n.1, .p (.int .i64) n.2.1, .p (.sl (.pr (.int .i64) (.pr (.int .i64) (.int .i64)))) n.2.2.1, .p (.int .u32) n.2.2.2.1, .p (.int .u32) n.2.2.2.2]), (7, [], .box [.p (.int .i64) ((n.2.2.1.getD (v12).toNat ((0 : Int), ((0 : Int), (0 : Int)))).1), .p (.int .i64) ((n.2.2.1.getD (v12).toNat ((0 : Int), ((0 : Int), (0 : Int)))).2.1), .p (.int .i64) ((n.2.2.1.getD (v12).toNat ((0 : Int), ((0 : Int), (0 : Int)))).2.2)])]⟩ : St)) (by kernel_rfl) ⟨o1, trivial, trivial, trivial, trivial⟩ ?_
      refine awl_nil ?_
      refine thenQ_n ?_
      refine aw_seq ?_
      refine aw_region ?_
      refine awl_runp 7 [1, 2, 5, 7, 10, 11, 12, 19, 20, 22] [2, 7] (ob := (True ∧ True ∧ True ∧ True ∧ ((decide ((n.2.2.1.getD (v12).toNat ((0 : Int), ((0 : Int), (0 : Int)))).2.1 < (0 : Int))) = true → True) ∧ ((decide ((n.2.2.1.getD (v12).toNat ((0 : Int), ((0 : Int), (0 : Int)))).2.1 < (0 : Int))) = true → True) ∧ ((decide ((n.2.2.1.getD (v12).toNat ((0 : Int), ((0 : Int), (0 : Int)))).2.1 < (0 : Int))) = true → True) ∧ True)) (st' := (⟨35, [(1, [], .v (.c (.p (.int .u32) setv3))), (2, [], .v (.c (.ptr 2 0))), (5, [], .v (.c (.p (.int .u32) setv2))), (7, [], .v (.c (.ptr 7 0))), (10, [], .v (.c (.p (.sl (.pr (.int .i64) (.pr (.int .i64) (.int .i64)))) n.2.2.1))), (11, [], .v (.c (.p (.int .i64) (n.2.2.1.length : Int)))), (12, [], .v (.c (.p (.int .i64) v12))), (19, [], .v (.c (.p .bool (decide ((n.2.2.1.getD (v12).toNat ((0 : Int), ((0 : Int), (0 : Int)))).2.1 < (0 : Int)))))), (20, [(19, true)], .v (.c (.p (.int .u32) setv3))), (22, [(19, true)], .v (.c (.p (.int .i64) ((n.2.2.1.getD (v12).toNat ((0 : Int), ((0 : Int), (0 : Int)))).1))))], [(2, [], .box [.p (.int .i64) n.1, .p (.int .i64) n.2.1, .p (.sl (.pr (.int .i64) (.pr (.int .i64) (.int .i64)))) n.2.2.1, .p (.int .u32) n.2.2.2.1, .p (.int .u32) n.2.2.2.2]), (7, [], .box [.p (.int .i64) ((n.2.2.1.getD (v12).toNat ((0 : Int), ((0 : Int), (0 : Int)))).1), .p (.int .i64) ((n.2.2.1.getD (v12).toNat ((0 : Int), ((0 : Int), (0 : Int)))).2.1), .p (.int .i64) ((n.2.2.1.getD (v12).toNat ((0 : Int), ((0 : Int), (0 : Int)))).2.2)])]⟩ : St)) (by kernel_rfl) ⟨trivial, trivial, trivial, trivial, (fun _ => trivial), (fun _ => trivial), (fun _ => trivial), trivial⟩ ?_
      refine awl_callk (p := [(19, true)]) (l := [toV1 (.int .u32) setv3, toV1 (.int .i64) ((n.2.2.1.getD (v12).toNat ((0 : Int), ((0 : Int), (0 : Int)))).1)]) (cl := []) false [.d (.int .u32), .d (.int .i64)] [1, 2, 5, 7, 10, 11, 12, 19, 23] [2, 7] (fun (ret23v : Bool) => ((((decide ((n.2.2.1.getD (v12).toNat ((0 : Int), ((0 : Int), (0 : Int)))).2.1 < (0 : Int))) && ret23v) = true → (0 ≤ (n.2.2.1.getD (v12).toNat ((0 : Int), ((0 : Int), (0 : Int)))).2.2 ∧ VC45_k2 v12 X2 (bOr .u32 setv3 (bShl .u32 (1 : Int) ((n.2.2.1.getD (v12).toNat ((0 : Int), ((0 : Int), (0 : Int)))).2.2))))) ∧ (((decide ((n.2.2.1.getD (v12).toNat ((0 : Int), ((0 : Int), (0 : Int)))).2.1 < (0 : Int))) && ret23v) = false → VC45_k2 v12 X2 setv3))) (fun ret23v => [toV1 .bool ret23v]) (fun ret23v => (⟨35, [(1, [], .v (.c (.p (.int .u32) setv3))), (2, [], .v (.c (.ptr 2 0))), (5, [], .v (.c (.p (.int .u32) setv2))), (7, [], .v (.c (.ptr 7 0))), (10, [], .v (.c (.p (.sl (.pr (.int .i64) (.pr (.int .i64) (.int .i64)))) n.2.2.1))), (11, [], .v (.c (.p (.int .i64) (n.2.2.1.length : Int)))), (12, [], .v (.c (.p (.int .i64) v12))), (19, [], .v (.c (.p .bool (decide ((n.2.2.1.getD (v12).toNat ((0 : Int), ((0 : Int), (0 : Int)))).2.1 < (0 : Int)))))), (23, [(19, true)], .v (.c (.p .bool ret23v)))], [(2, [], .box [.p (.int .i64) n.1, .p (.int .i64) n.2.1, .p (.sl (.pr (.int .i64) (.pr (.int .i64) (.int .i64)))) n.2.2.1, .p (.int .u32) n.2.2.2.1, .p (.int .u32) n.2.2.2.2]), (7, [], .box [.p (.int .i64) ((n.2.2.1.getD (v12).toNat ((0 : Int), ((0 : Int), (0 : Int)))).1), .p (.int .i64) ((n.2.2.1.getD (v12).toNat ((0 : Int), ((0 : Int), (0 : Int)))).2.1), .p (.int .i64) ((n.2.2.1.getD (v12).toNat ((0 : Int), ((0 : Int), (0 : Int)))).2.2)])]⟩ : St)) (by kernel_rfl) rfl (by kernel_rfl) rfl (by kernel_rfl) Try.call42 (by kernel_rfl) (fun ret23v => by kernel_rfl) (fun e => by cases e) (fun hg => link42 setv3 ((n.2.2.1.getD (v12).toNat ((0 : Int), ((0 : Int), (0 : Int)))).1) _ (by have := gcall_T h (show (decide ((n.2.2.1.getD (v12).toNat ((0 : Int), ((0 : Int), (0 : Int)))).2.1 < (0 : Int))) = true from hg); exact this)) (fun hg => ⟨false, by have := gcall_F h (show (decide ((n.2.2.1.getD (v12).toNat ((0 : Int), ((0 : Int), (0 : Int)))).2.1 < (0 : Int))) = false from hg); exact this⟩) (fun ret23v h => ?_)
      have h : ((((decide ((n.2.2.1.getD (v12).toNat ((0 : Int), ((0 : Int), (0 : Int)))).2.1 < (0 : Int))) && ret23v) = true → (0 ≤ (n.2.2.1.getD (v12).toNat ((0 : Int), ((0 : Int), (0 : Int)))).2.2 ∧ VC45_k2 v12 X2 (bOr .u32 setv3 (bShl .u32 (1 : Int) ((n.2.2.1.getD (v12).toNat ((0 : Int), ((0 : Int), (0 : Int)))).2.2))))) ∧ (((decide ((n.2.2.1.getD (v12).toNat ((0 : Int), ((0 : Int), (0 : Int)))).2.1 < (0 : Int))) && ret23v) = false → VC45_k2 v12 X2 setv3)) := h
      refine awl_runp 1 [1, 2, 5, 7, 10, 11, 12, 24] [2, 7] (ob := (True ∧ True)) (st' := (⟨35, [(1, [], .v (.c (.p (.int .u32) setv3))), (2, [], .v (.c (.ptr 2 0))), (5, [], .v (.c (.p (.int .u32) setv2))), (7, [], .v (.c (.ptr 7 0))), (10, [], .v (.c (.p (.sl (.pr (.int .i64) (.pr (.int .i64) (.int .i64)))) n.2.2.1))), (11, [], .v (.c (.p (.int .i64) (n.2.2.1.length : Int)))), (12, [], .v (.c (.p (.int .i64) v12))), (24, [], .v (.c (.p .bool ((decide ((n.2.2.1.getD (v12).toNat ((0 : Int), ((0 : Int), (0 : Int)))).2.1 < (0 : Int))) && ret23v))))], [(2, [], .box [.p (.int .i64) n.1, .p (.int .i64) n.2.1, .p (.sl (.pr (.int .i64) (.pr (.int .i64) (.int .i64)))) n.2.2.1, .p (.int .u32) n.2.2.2.1, .p (.int .u32) n.2.2.2.2]), (7, [], .box [.p (.int .i64) ((n.2.2.1.getD (v12).toNat ((0 : Int), ((0 : Int), (0 : Int)))).1), .p (.int .i64) ((n.2.2.1.getD (v12).toNat ((0 : Int), ((0 : Int), (0 : Int)))).2.1), .p (.int .i64) ((n.2.2.1.getD (v12).toNat ((0 : Int), ((0 : Int), (0 : Int)))).2.2)])]⟩ : St)) (by kernel_rfl) ⟨trivial, trivial⟩ ?_
      refine awl_nil ?_
      refine thenQ_n ?_
      refine withJoin (σ := Int) (fun s => (⟨35, [(1, [], .v (.c (.p (.int .u32) s))), (2, [], .v (.c (.ptr 2 0))), (5, [], .v (.c (.p (.int .u32) setv2))), (10, [], .v (.c (.p (.sl (.pr (.int .i64) (.pr (.int .i64) (.int .i64)))) n.2.2.1))), (11, [], .v (.c (.p (.int .i64) (n.2.2.1.length : Int)))), (12, [], .v (.c (.p (.int .i64) v12)))], [(2, [], .box [.p (.int .i64) n.1, .p (.int .i64) n.2.1, .p (.sl (.pr (.int .i64) (.pr (.int .i64) (.int .i64)))) n.2.2.1, .p (.int .u32) n.2.2.2.1, .p (.int .u32) n.2.2.2.2])]⟩ : St)) (fun s => VC45_k2 v12 X2 s) (fun setv4 h => ?_) (fun rest2 => ?_)
      · have h : VC45_k2 v12 X2 setv4 := h
        unfold VC45_k2 at h
        refine blockQ_n ?_
        refine thenQ_n ?_
        refine aw_region ?_
        obtain ⟨o1, h⟩ := h
        refine awl_runp 2 [1, 2, 5, 10, 11, 12] [2] (ob := (InR (v12 + (1 : Int)) ∧ True ∧ True)) (st' := (⟨35, [(1, [], .v (.c (.p (.int .u32) setv4))), (2, [], .v (.c (.ptr 2 0))), (5, [], .v (.c (.p (.int .u32) setv2))), (10, [], .v (.c (.p (.sl (.pr (.int .i64) (.pr (.int .i64) (.int .i64)))) n.2.2.1))), (11, [], .v (.c (.p (.int .i64) (n.2.2.1.length : Int)))), (12, [], .v (.c (.p (.int .i64) (v12 + (1 : Int)))))], [(2, [], .box [.p (.int .i64) n.1, .p (.int .i64) n.2.1, .p (.sl (.pr (.int .i64) (.pr (.int .i64) (.int .i64)))) n.2.2.1, .p (.int .u32) n.2.2.2.1, .p (.int .u32) n.2.2.2.2])]⟩ : St)) (by kernel_rfl) ⟨o1, trivial, trivial⟩ ?_
        refine awl_nil ?_
        exact thenQ_n ⟨(setv4, (v12 + (1 : Int))), rfl, h⟩
      · refine aw_cond (b := ((decide ((n.2.2.1.getD (v12).toNat ((0 : Int), ((0 : Int), (0 : Int)))).2.1 < (0 : Int))) && ret23v)) (by kernel_rfl) (fun hb => ?_) (fun hb => ?_)
        · have h := h.1 hb
          refine aw_region ?_
          obtain ⟨o1, h⟩ := h
          refine awl_runp 6 [1, 2, 5, 10, 11, 12] [2] (ob := (True ∧ True ∧ True ∧ 0 ≤ (n.2.2.1.getD (v12).toNat ((0 : Int), ((0 : Int), (0 : Int)))).2.2 ∧ True ∧ True ∧ True)) (st' := (⟨35, [(1, [], .v (.c (.p (.int .u32) (bOr .u32 setv3 (bShl .u32 (1 : Int) ((n.2.2.1.getD (v12).toNat ((0 : Int), ((0 : Int), (0 : Int)))).2.2)))))), (2, [], .v (.c (.ptr 2 0))), (5, [], .v (.c (.p (.int .u32) setv2))), (10, [], .v (.c (.p (.sl (.pr (.int .i64) (.pr (.int .i64) (.int .i64)))) n.2.2.1))), (11, [], .v (.c (.p (.int .i64) (n.2.2.1.length : Int)))), (12, [], .v (.c (.p (.int .i64) v12)))], [(2, [], .box [.p (.int .i64) n.1, .p (.int .i64) n.2.1, .p (.sl (.pr (.int .i64) (.pr (.int .i64) (.int .i64)))) n.2.2.1, .p (.int .u32) n.2.2.2.1, .p (.int .u32) n.2.2.2.2])]⟩ : St)) (by kernel_rfl) ⟨trivial, trivial, trivial, o1, trivial, trivial, trivial⟩ ?_
          refine awl_nil ?_
          exact rest2 (bOr .u32 setv3 (bShl .u32 (1 : Int) ((n.2.2.1.getD (v12).toNat ((0 : Int), ((0 : Int), (0 : Int)))).2.2))) h
        · have h := h.2 hb
          refine aw_conv [.prune [1, 2, 5, 10, 11, 12] [2]] (st' := (⟨35, [(1, [], .v (.c (.p (.int .u32) setv3))), (2, [], .v (.c (.ptr 2 0))), (5, [], .v (.c (.p (.int .u32) setv2))), (10, [], .v (.c (.p (.sl (.pr (.int .i64) (.pr (.int .i64) (.int .i64)))) n.2.2.1))), (11, [], .v (.c (.p (.int .i64) (n.2.2.1.length : Int)))), (12, [], .v (.c (.p (.int .i64) v12)))], [(2, [], .box [.p (.int .i64) n.1, .p (.int .i64) n.2.1, .p (.sl (.pr (.int .i64) (.pr (.int .i64) (.int .i64)))) n.2.2.1, .p (.int .u32) n.2.2.2.1, .p (.int .u32) n.2.2.2.2])]⟩ : St)) (by kernel_rfl) ?_
          refine aw_skip ?_
          exact rest2 setv3 h
    · have h := h.2 hb
      refine aw_conv [.prune [1, 2, 5] [2]] (st' := (⟨35, [(1, [], .v (.c (.p (.int .u32) setv3))), (2, [], .v (.c (.ptr 2 0))), (5, [], .v (.c (.p (.int .u32) setv2)))], [(2, [], .box [.p (.int .i64) n.1, .p (.int .i64) n.2.1, .p (.sl (.pr (.int .i64) (.pr (.int .i64) (.int .i64)))) n.2.2.1, .p (.int .u32) n.2.2.2.1, .p (.int .u32) n.2.2.2.2])]⟩ : St)) (by kernel_rfl) ?_
      refine aw_exit ?_
      refine thenQ_x ?_
      refine thenQ_x ?_
      refine blockQ_hit ?_
      exact rest1 setv3 h

-- coppicer/net.step
def VC46_k1 (n : (Int × (Int × ((List (Int × (Int × Int))) × (Int × Int))))) (K : Int → Prop) (out : Int) : Prop :=
  VC45 n out (fun (ret35v : Int) => K ret35v)

def VC46_k2 (v13 : Int) (X1 : Int × Int → Prop) (out2 : Int) : Prop :=
  (InR (v13 + (1 : Int)) ∧ X1 (out2, (v13 + (1 : Int))))

def VC46_l1 (n : (Int × (Int × ((List (Int × (Int × Int))) × (Int × Int))))) (setv : Int) (sv : Int) (K : Int → Prop) (out : Int) (v13 : Int) (X1 : Int × Int → Prop) : Prop :=
  (((decide (v13 < (n.2.2.1.length : Int))) = true → (inIdx v13 n.2.2.1.length ∧ gcall (α := Bool) (decide ((n.2.2.1.getD (v13).toNat ((0 : Int), ((0 : Int), (0 : Int)))).2.1 = sv)) (VC42 setv ((n.2.2.1.getD (v13).toNat ((0 : Int), ((0 : Int), (0 : Int)))).1)) false (fun (ret25v : Bool) => ((((decide ((n.2.2.1.getD (v13).toNat ((0 : Int), ((0 : Int), (0 : Int)))).2.1 = sv)) && ret25v) = true → (0 ≤ (n.2.2.1.getD (v13).toNat ((0 : Int), ((0 : Int), (0 : Int)))).2.2 ∧ VC46_k2 v13 X1 (bOr .u32 out (bShl .u32 (1 : Int) ((n.2.2.1.getD (v13).toNat ((0 : Int), ((0 : Int), (0 : Int)))).2.2))))) ∧ (((decide ((n.2.2.1.getD (v13).toNat ((0 : Int), ((0 : Int), (0 : Int)))).2.1 = sv)) && ret25v) = false → VC46_k2 v13 X1 out))))) ∧ ((decide (v13 < (n.2.2.1.length : Int))) = false → VC46_k1 n K out))

def VC46 (n : (Int × (Int × ((List (Int × (Int × Int))) × (Int × Int))))) (setv : Int) (sv : Int) (K : Int → Prop) : Prop :=
  Loop (σ := Int × Int) (fun s X => VC46_l1 n setv sv K s.1 s.2 X) ((0 : Int), (0 : Int))

set_option maxHeartbeats 4000000 in
theorem link46 (n : (Int × (Int × ((List (Int × (Int × Int))) × (Int × Int))))) (setv : Int) (sv : Int) (K : Int → Prop) (h : VC46 n setv sv K) : ACalls Try.prog 46 [toV1 (.pr (.int .i64) (.pr (.int .i64) (.pr (.sl (.pr (.int .i64) (.pr (.int .i64) (.int .i64)))) (.pr (.int .u32) (.int .u32))))) n, toV1 (.int .u32) setv, toV1 (.int .i64) sv] (fun res => ∃ y, res = (fun y => [toV1 (.int .u32) y]) y ∧ K y) := by
  refine acalls_of_aw [(.int .u32)] [.t 6] Try.func46 rfl rfl rfl ?_
  unfold VC46 at h
  refine aw_seq ?_
  refine aw_region ?_
  refine awl_runp 2 [1, 2, 3] [3] (ob := (True ∧ True ∧ True)) (st' := (⟨36, [(1, [], .v (.c (.p (.int .u32) setv))), (2, [], .v (.c (.p (.int .i64) sv))), (3, [], .v (.c (.ptr 3 0)))], [(3, [], .box [.p (.int .i64) n.1, .p (.int .i64) n.2.1, .p (.sl (.pr (.int .i64) (.pr (.int .i64) (.int .i64)))) n.2.2.1, .p (.int .u32) n.2.2.2.1, .p (.int .u32) n.2.2.2.2])]⟩ : St)) (by kernel_rfl) ⟨trivial, trivial, trivial⟩ ?_
  refine awl_nil ?_
  refine thenQ_n ?_
  refine aw_seq ?_
  refine aw_region ?_
  refine awl_runp 1 [1, 2, 3, 7] [3] (ob := (True ∧ True)) (st' := (⟨36, [(1, [], .v (.c (.p (.int .u32) setv))), (2, [], .v (.c (.p (.int .i64) sv))), (3, [], .v (.c (.ptr 3 0))), (7, [], .v (.c (.p (.int .u32) (0 : Int))))], [(3, [], .box [.p (.int .i64) n.1, .p (.int .i64) n.2.1, .p (.sl (.pr (.int .i64) (.pr (.int .i64) (.int .i64)))) n.2.2.1, .p (.int .u32) n.2.2.2.1, .p (.int .u32) n.2.2.2.2])]⟩ : St)) (by kernel_rfl) ⟨trivial, trivial⟩ ?_
  refine awl_nil ?_
  refine thenQ_n ?_
  refine aw_seq ?_
  refine aw_seq ?_
  refine aw_region ?_
  refine awl_runp 4 [1, 2, 3, 7, 11, 12, 13] [3] (ob := (True ∧ True ∧ True ∧ True ∧ True)) (st' := (⟨36, [(1, [], .v (.c (.p (.int .u32) setv))), (2, [], .v (.c (.p (.int .i64) sv))), (3, [], .v (.c (.ptr 3 0))), (7, [], .v (.c (.p (.int .u32) (0 : Int)))), (11, [], .v (.c (.p (.sl (.pr (.int .i64) (.pr (.int .i64) (.int .i64)))) n.2.2.1))), (12, [], .v (.c (.p (.int .i64) (n.2.2.1.length : Int)))), (13, [], .v (.c (.p (.int .i64) (0 : Int))))], [(3, [], .box [.p (.int .i64) n.1, .p (.int .i64) n.2.1, .p (.sl (.pr (.int .i64) (.pr (.int .i64) (.int .i64)))) n.2.2.1, .p (.int .u32) n.2.2.2.1, .p (.int .u32) n.2.2.2.2])]⟩ : St)) (by kernel_rfl) ⟨trivial, trivial, trivial, trivial, trivial⟩ ?_
  refine awl_nil ?_
  refine thenQ_n ?_
  refine withJoin (σ := Int) (fun s => (⟨36, [(3, [], .v (.c (.ptr 3 0))), (7, [], .v (.c (.p (.int .u32) s)))], [(3, [], .box [.p (.int .i64) n.1, .p (.int .i64) n.2.1, .p (.sl (.pr (.int .i64) (.pr (.int .i64) (.int .i64)))) n.2.2.1, .p (.int .u32) n.2.2.2.1, .p (.int .u32) n.2.2.2.2])]⟩ : St)) (fun s => VC46_k1 n K s) (fun out h => ?_) (fun rest1 => ?_)
  · have h : VC46_k1 n K out := h
    unfold VC46_k1 at h
    refine thenQ_n ?_
    refine aw_seq ?_
    refine aw_region ?_
    refine awl_runp 2 [33, 34] [] (ob := (True ∧ True ∧ True)) (st' := (⟨36, [(33, [], .v (.agg [.p (.int .i64) n.1, .p (.int .i64) n.2.1, .p (.sl (.pr (.int .i64) (.pr (.int .i64) (.int .i64)))) n.2.2.1, .p (.int .u32) n.2.2.2.1, .p (.int .u32) n.2.2.2.2])), (34, [], .v (.c (.p (.int .u32) out)))], []⟩ : St)) (by kernel_rfl) ⟨trivial, trivial, trivial⟩ ?_
    refine awl_callk (p := []) (l := [toV1 (.pr (.int .i64) (.pr (.int .i64) (.pr (.sl (.pr (.int .i64) (.pr (.int .i64) (.int .i64)))) (.pr (.int .u32) (.int .u32))))) n, toV1 (.int .u32) out]) (cl := []) false [.d (.pr (.int .i64) (.pr (.int .i64) (.pr (.sl (.pr (.int .i64) (.pr (.int .i64) (.int .i64)))) (.pr (.int .u32) (.int .u32))))), .d (.int .u32)] [35] [] (fun (ret35v : Int) => K ret35v) (fun ret35v => [toV1 (.int .u32) ret35v]) (fun ret35v => (⟨36, [(35, [], .v (.c (.p (.int .u32) ret35v)))], []⟩ : St)) (by kernel_rfl) rfl (by kernel_rfl) rfl (by kernel_rfl) Try.call45 (by kernel_rfl) (fun ret35v => by kernel_rfl) (fun e => by cases e) (fun hg => link45 n out _ h) (fun hg => noF hg) (fun ret35v h => ?_)
    have h : K ret35v := h
    refine awl_runp 1 [6] [] (ob := (True ∧ True)) (st' := (⟨36, [(6, [], .v (.c (.p (.int .u32) ret35v)))], []⟩ : St)) (by kernel_rfl) ⟨trivial, trivial⟩ ?_
    refine awl_nil ?_
    refine thenQ_n ?_
    refine aw_ret ?_
    exact retQ_r (σ := Int) (R := (fun y => [toV1 (.int .u32) y])) (ob := (True ∧ True)) ret35v (by kernel_rfl) ⟨trivial, trivial⟩ h
  · refine aw_block ?_
    refine aw_loop (σ := Int × Int) (fun s => (⟨36, [(1, [], .v (.c (.p (.int .u32) setv))), (2, [], .v (.c (.p (.int .i64) sv))), (3, [], .v (.c (.ptr 3 0))), (7, [], .v (.c (.p (.int .u32) s.1))), (11, [], .v (.c (.p (.sl (.pr (.int .i64) (.pr (.int .i64) (.int .i64)))) n.2.2.1))), (12, [], .v (.c (.p (.int .i64) (n.2.2.1.length : Int)))), (13, [], .v (.c (.p (.int .i64) s.2)))], [(3, [], .box [.p (.int .i64) n.1, .p (.int .i64) n.2.1, .p (.sl (.pr (.int .i64) (.pr (.int .i64) (.int .i64)))) n.2.2.1, .p (.int .u32) n.2.2.2.1, .p (.int .u32) n.2.2.2.2])]⟩ : St)) (fun s X => VC46_l1 n setv sv K s.1 s.2 X) (s0 := ((0 : Int), (0 : Int))) (fun s X1 h => ?_) h
    obtain ⟨out, v13⟩ := s
    have h : VC46_l1 n setv sv K out v13 X1 := h
    unfold VC46_l1 at h
    refine aw_seq ?_
    refine aw_region ?_
    refine awl_runp 1 [1, 2, 3, 7, 11, 12, 13, 14] [3] (ob := (True ∧ True)) (st' := (⟨36, [(1, [], .v (.c (.p (.int .u32) setv))), (2, [], .v (.c (.p (.int .i64) sv))), (3, [], .v (.c (.ptr 3 0))), (7, [], .v (.c (.p (.int .u32) out))), (11, [], .v (.c (.p (.sl (.pr (.int .i64) (.pr (.int .i64) (.int .i64)))) n.2.2.1))), (12, [], .v (.c (.p (.int .i64) (n.2.2.1.length : Int)))), (13, [], .v (.c (.p (.int .i64) v13))), (14, [], .v (.c (.p .bool (decide (v13 < (n.2.2.1.length : Int))))))], [(3, [], .box [.p (.int .i64) n.1, .p (.int .i64) n.2.1, .p (.sl (.pr (.int .i64) (.pr (.int .i64) (.int .i64)))) n.2.2.1, .p (.int .u32) n.2.2.2.1, .p (.int .u32) n.2.2.2.2])]⟩ : St)) (by kernel_rfl) ⟨trivial, trivial⟩ ?_
    refine awl_nil ?_
    refine thenQ_n ?_
    refine aw_seq ?_
    refine aw_cond (b := (decide (v13 < (n.2.2.1.length : Int)))) (by kernel_rfl) (fun hb => ?_) (fun hb => ?_)
    · have h := h.1 hb
      refine aw_skip ?_
      refine thenQ_n ?_
      refine aw_seq ?_
      refine aw_block ?_
      refine aw_seq ?_
      refine aw_region ?_
      obtain ⟨o1, h⟩ := h
      refine awl_runp 4 [1, 2, 3, 7, 9, 11, 12, 13] [3, 9] (ob := (inIdx v13 n.2.2.1.length ∧ True ∧ True ∧ True ∧ True)) (st' := (⟨36, [(1, [], .v (.c (.p (.int .u32) setv))), (2, [], .v (.c (.p (.int .i64) sv))), (3, [], .v (.c (.ptr 3 0))), (7, [], .v (.c (.p (.int .u32) out))), (9, [], .v (.c (.ptr 9 0))), (11, [], .v (.c (.p (.sl (.pr (.int .i64) (.pr (.int .i64) (.int .i64)))) n.2.2.1))), (12, [], .v (.c (.p (.int .i64) (n.2.2.1.length : Int)))), (13, [], .v (.c (.p (.int .i64) v13)))], [(3, [], .box [.p (.int .i64) n.1, .p (.int .i64) n.2.1, .p (.sl (.pr (.int .i64) (.pr (.int .i64) (.int .i64)))) n.2.2.1, .p (.int .u32) n.2.2.2.1, .p (.int .u32) n.2.2.2.2]), (9, [], .box [.p (.int .i64) ((n.2.2.1.getD (v13).toNat ((0 : Int), ((0 : Int), (0 : Int)))).1), .p (.int .i64) ((n.2.2.1.getD (v13).toNat ((0 : Int), ((0 : Int), (0 : Int)))).2.1), .p (.int .i64) ((n.2.2.1.getD (v13).toNat ((0 : Int), ((0 : Int), (0 : Int)))).2.2)])]⟩ : St)) (by kernel_rfl) ⟨o1, trivial, trivial, trivial, trivial⟩ ?_
      refine awl_nil ?_
      refine thenQ_n ?_
      refine aw_seq ?_
      refine aw_region ?_
      refine awl_runp 8 [1, 2, 3, 7, 9, 11, 12, 13, 21, 22, 24] [3, 9] (ob := (True ∧ True ∧ True ∧ True ∧ True ∧ ((decide ((n.2.2.1.getD (v13).toNat ((0 : Int), ((0 : Int), (0 : Int)))).2.1 = sv)) = true → True) ∧ ((decide ((n.2.2.1.getD (v13).toNat ((0 : Int), ((0 : Int), (0 : Int)))).2.1 = sv)) = true → True) ∧ ((decide ((n.2.2.1.getD (v13).toNat ((0 : Int), ((0 : Int), (0 : Int)))).2.1 = sv)) = true → True) ∧ True)) (st' := (⟨36, [(1, [], .v (.c (.p (.int .u32) setv))), (2, [], .v (.c (.p (.int .i64) sv))), (3, [], .v (.c (.ptr 3 0))), (7, [], .v (.c (.p (.int .u32) out))), (9, [], .v (.c (.ptr 9 0))), (11, [], .v (.c (.p (.sl (.pr (.int .i64) (.pr (.int .i64) (.int .i64)))) n.2.2.1))), (12, [], .v (.c (.p (.int .i64) (n.2.2.1.length : Int)))), (13, [], .v (.c (.p (.int .i64) v13))), (21, [], .v (.c (.p .bool (decide ((n.2.2.1.getD (v13).toNat ((0 : Int), ((0 : Int), (0 : Int)))).2.1 = sv))))), (22, [(21, true)], .v (.c (.p (.int .u32) setv))), (24, [(21, true)], .v (.c (.p (.int .i64) ((n.2.2.1.getD (v13).toNat ((0 : Int), ((0 : Int), (0 : Int)))).1))))], [(3, [], .box [.p (.int .i64) n.1, .p (.int .i64) n.2.1, .p (.sl (.pr (.int .i64) (.pr (.int .i64) (.int .i64)))) n.2.2.1, .p (.int .u32) n.2.2.2.1, .p (.int .u32) n.2.2.2.2]), (9, [], .box [.p (.int .i64) ((n.2.2.1.getD (v13).toNat ((0 : Int), ((0 : Int), (0 : Int)))).1), .p (.int .i64) ((n.2.2.1.getD (v13).toNat ((0 : Int), ((0 : Int), (0 : Int)))).2.1), .p (.int .i64) ((n.2.2.1.getD (v13).toNat ((0 : Int), ((0 : Int), (0 : Int)))).2.2)])]⟩ : St)) (by kernel_rfl) ⟨trivial, trivial, trivial, trivial, trivial, (fun _ => trivial), (fun _ => trivial), (fun _ => trivial), trivial⟩ ?_
      refine awl_callk (p := [(21, true)]) (l := [toV1 (.int .u32) setv, toV1 (.int .i64) ((n.2.2.1.getD (v13).toNat ((0 : Int), ((0 : Int), (0 : Int)))).1)]) (cl := []) false [.d (.int .u32), .d (.int .i64)] [1, 2, 3, 7, 9, 11, 12, 13, 21, 25] [3, 9] (fun (ret25v : Bool) => ((((decide ((n.2.2.1.getD (v13).toNat ((0 : Int), ((0 : Int), (0 : Int)))).2.1 = sv)) && ret25v) = true → (0 ≤ (n.2.2.1.getD (v13).toNat ((0 : Int), ((0 : Int), (0 : Int)))).2.2 ∧ VC46_k2 v13 X1 (bOr .u32 out (bShl .u32 (1 : Int) ((n.2.2.1.getD (v13).toNat ((0 : Int), ((0 : Int), (0 : Int)))).2.2))))) ∧ (((decide ((n.2.2.1.getD (v13).toNat ((0 : Int), ((0 : Int), (0 : Int)))).2.1 = sv)) && ret25v) = false → VC46_k2 v13 X1 out))) (fun ret25v => [toV1 .bool ret25v]) (fun ret25v => (⟨36, [(1, [], .v (.c (.p (.int .u32) setv))), (2, [], .v (.c (.p (.int .i64) sv))), (3, [], .v (.c (.ptr 3 0))), (7, [], .v (.c (.p (.int .u32) out))), (9, [], .v (.c (.ptr 9 0))), (11, [], .v (.c (.p (.sl (.pr (.int .i64) (.pr (.int .i64) (.int .i64)))) n.2.2.1))), (12, [], .v (.c (.p (.int .i64) (n.2.2.1.length : Int)))), (13, [], .v (.c (.p (.int .i64) v13))), (21, [], .v (.c (.p .bool (decide ((n.2.2.1.getD (v13).toNat ((0 : Int), ((0 : Int), (0 : Int)))).2.1 = sv))))), (25, [(21, true)], .v (.c (.p .bool ret25v)))], [(3, [], .box [.p (.int .i64) n.1, .p (.int .i64) n.2.1, .p (.sl (.pr (.int .i64) (.pr (.int .i64) (.int .i64)))) n.2.2.1, .p (.int .u32) n.2.2.2.1, .p (.int .u32) n.2.2.2.2]), (9, [], .box [.p (.int .i64) ((n.2.2.1.getD (v13).toNat ((0 : Int), ((0 : Int), (0 : Int)))).1), .p (.int .i64) ((n.2.2.1.getD (v13).toNat ((0 : Int), ((0 : Int), (0 : Int)))).2.1), .p (.int .i64) ((n.2.2.1.getD (v13).toNat ((0 : Int), ((0 : Int), (0 : Int)))).2.2)])]⟩ : St)) (by kernel_rfl) rfl (by kernel_rfl) rfl (by kernel_rfl) Try.call42 (by kernel_rfl) (fun ret25v => by kernel_rfl) (fun e => by cases e) (fun hg => link42 setv ((n.2.2.1.getD (v13).toNat ((0 : Int), ((0 : Int), (0 : Int)))).1) _ (by have := gcall_T h (show (decide ((n.2.2.1.getD (v13).toNat ((0 : Int), ((0 : Int), (0 : Int)))).2.1 = sv)) = true from hg); exact this)) (fun hg => ⟨false, by have := gcall_F h (show (decide ((n.2.2.1.getD (v13).toNat ((0 : Int), ((0 : Int), (0 : Int)))).2.1 = sv)) = false from hg); exact this⟩) (fun ret25v h => ?_)
      have h : ((((decide ((n.2.2.1.getD (v13).toNat ((0 : Int), ((0 : Int), (0 : Int)))).2.1 = sv)) && ret25v) = true → (0 ≤ (n.2.2.1.getD (v13).toNat ((0 : Int), ((0 : Int), (0 : Int)))).2.2 ∧ VC46_k2 v13 X1 (bOr .u32 out (bShl .u32 (1 : Int) ((n.2.2.1.getD (v13).toNat ((0 : Int), ((0 : Int), (0 : Int)))).2.2))))) ∧ (((decide ((n.2.2.1.getD (v13).toNat ((0 : Int), ((0 : Int), (0 : Int)))).2.1 = sv)) && ret25v) = false → VC46_k2 v13 X1 out)) := h
      refine awl_runp 1 [1, 2, 3, 7, 9, 11, 12, 13, 26] [3, 9] (ob := (True ∧ True)) (st' := (⟨36, [(1, [], .v (.c (.p (.int .u32) setv))), (2, [], .v (.c (.p (.int .i64) sv))), (3, [], .v (.c (.ptr 3 0))), (7, [], .v (.c (.p (.int .u32) out))), (9, [], .v (.c (.ptr 9 0))), (11, [], .v (.c (.p (.sl (.pr (.int .i64) (.pr (.int .i64) (.int .i64)))) n.2.2.1))), (12, [], .v (.c (.p (.int .i64) (n.2.2.1.length : Int)))), (13, [], .v (.c (.p (.int .i64) v13))), (26, [], .v (.c (.p .bool ((decide ((n.2.2.1.getD (v13).toNat ((0 : Int), ((0 : Int), (0 : Int)))).2.1 = sv)) && ret25v))))], [(3, [], .box [.p (.int .i64) n.1, .p (.int .i64) n.2.1, .p (.sl (.pr (.int .i64) (.pr (.int .i64) (.int .i64)))) n.2.2.1, .p (.int .u32) n.2.2.2.1, .p (.int .u32) n.2.2.2.2]), (9, [], .box [.p (.int .i64) ((n.2.2.1.getD (v13).toNat ((0 : Int), ((0 : Int), (0 : Int)))).1), .p (.int .i64) ((n.2.2.1.getD (v13).toNat ((0 : Int), ((0 : Int), (0 : Int)))).2.1), .p (.int .i64) ((n.2.2.1.getD (v13).toNat ((0 : Int), ((0 : Int), (0 : Int)))).2.2)])]⟩ : St)) (by kernel_rfl) ⟨trivial, trivial⟩ ?_
      refine awl_nil ?_
      refine thenQ_n ?_
      refine withJoin (σ := Int) (fun s => (⟨36, [(1, [], .v (.c (.p (.int .u32) setv))), (2, [], .v (.c (.p (.int .i64) sv))), (3, [], .v (.c (.ptr 3 0))), (7, [], .v (.c (.p (.int .u32) s))), (11, [], .v (.c (.p (.sl (.pr (.int .i64) (.pr (.int .i64) (.int .i64)))) n.2.2.1))), (12, [], .v (.c (.p (.int .i64) (n.2.2.1.length : Int)))), (13, [], .v (.c (.p (.int .i64) v13)))], [(3, [], .box [.p (.int .i64) n.1, .p (.int .i64) n.2.1, .p (.sl (.pr (.int .i64) (.pr (.int .i64) (.int .i64)))) n.2.2.1, .p (.int .u32) n.2.2.2.1, .p (.int .u32) n.2.2.2.2])]⟩ : St)) (fun s => VC46_k2 v13 X1 s) (fun out2 h => ?_) (fun rest2 => ?_)
      · have h : VC46_k2 v13 X1 out2 := h
        unfold VC46_k2 at h
        refine blockQ_n ?_
        refine thenQ_n ?_
        refine aw_region ?_
        obtain ⟨o1, h⟩ := h
        refine awl_runp 2 [1, 2, 3, 7, 11, 12, 13] [3] (ob := (InR (v13 + (1 : Int)) ∧ True ∧ True)) (st' := (⟨36, [(1, [], .v (.c (.p (.int .u32) setv))), (2, [], .v (.c (.p (.int .i64) sv))), (3, [], .v (.c (.ptr 3 0))), (7, [], .v (.c (.p (.int .u32) out2))), (11, [], .v (.c (.p (.sl (.pr (.int .i64) (.pr (.int .i64) (.int .i64)))) n.2.2.1))), (12, [], .v (.c (.p (.int .i64) (n.2.2.1.length : Int)))), (13, [], .v (.c (.p (.int .i64) (v13 + (1 : Int)))))], [(3, [], .box [.p (.int .i64) n.1, .p (.int .i64) n.2.1, .p (.sl (.pr (.int .i64) (.pr (.int .i64) (.int .i64)))) n.2.2.1, .p (.int .u32) n.2.2.2.1, .p (.int .u32) n.2.2.2.2])]⟩ : St)) (by kernel_rfl) ⟨o1, trivial, trivial⟩ ?_
        refine awl_nil ?_
        exact thenQ_n ⟨(out2, (v13 + (1 : Int))), rfl, h⟩
      · refine aw_cond (b := ((decide ((n.2.2.1.getD (v13).toNat ((0 : Int), ((0 : Int), (0 : Int)))).2.1 = sv)) && ret25v)) (by kernel_rfl) (fun hb => ?_) (fun hb => ?_)
        · have h := h.1 hb
          refine aw_region ?_
          obtain ⟨o1, h⟩ := h
          refine awl_runp 6 [1, 2, 3, 7, 11, 12, 13] [3] (ob := (True ∧ True ∧ True ∧ 0 ≤ (n.2.2.1.getD (v13).toNat ((0 : Int), ((0 : Int), (0 : Int)))).2.2 ∧ True ∧ True ∧ True)) (st' := (⟨36, [(1, [], .v (.c (.p (.int .u32) setv))), (2, [], .v (.c (.p (.int .i64) sv))), (3, [], .v (.c (.ptr 3 0))), (7, [], .v (.c (.p (.int .u32) (bOr .u32 out (bShl .u32 (1 : Int) ((n.2.2.1.getD (v13).toNat ((0 : Int), ((0 : Int), (0 : Int)))).2.2)))))), (11, [], .v (.c (.p (.sl (.pr (.int .i64) (.pr (.int .i64) (.int .i64)))) n.2.2.1))), (12, [], .v (.c (.p (.int .i64) (n.2.2.1.length : Int)))), (13, [], .v (.c (.p (.int .i64) v13)))], [(3, [], .box [.p (.int .i64) n.1, .p (.int .i64) n.2.1, .p (.sl (.pr (.int .i64) (.pr (.int .i64) (.int .i64)))) n.2.2.1, .p (.int .u32) n.2.2.2.1, .p (.int .u32) n.2.2.2.2])]⟩ : St)) (by kernel_rfl) ⟨trivial, trivial, trivial, o1, trivial, trivial, trivial⟩ ?_
          refine awl_nil ?_
          exact rest2 (bOr .u32 out (bShl .u32 (1 : Int) ((n.2.2.1.getD (v13).toNat ((0 : Int), ((0 : Int), (0 : Int)))).2.2))) h
        · have h := h.2 hb
          refine aw_conv [.prune [1, 2, 3, 7, 11, 12, 13] [3]] (st' := (⟨36, [(1, [], .v (.c (.p (.int .u32) setv))), (2, [], .v (.c (.p (.int .i64) sv))), (3, [], .v (.c (.ptr 3 0))), (7, [], .v (.c (.p (.int .u32) out))), (11, [], .v (.c (.p (.sl (.pr (.int .i64) (.pr (.int .i64) (.int .i64)))) n.2.2.1))), (12, [], .v (.c (.p (.int .i64) (n.2.2.1.length : Int)))), (13, [], .v (.c (.p (.int .i64) v13)))], [(3, [], .box [.p (.int .i64) n.1, .p (.int .i64) n.2.1, .p (.sl (.pr (.int .i64) (.pr (.int .i64) (.int .i64)))) n.2.2.1, .p (.int .u32) n.2.2.2.1, .p (.int .u32) n.2.2.2.2])]⟩ : St)) (by kernel_rfl) ?_
          refine aw_skip ?_
          exact rest2 out h
    · have h := h.2 hb
      refine aw_conv [.prune [3, 7] [3]] (st' := (⟨36, [(3, [], .v (.c (.ptr 3 0))), (7, [], .v (.c (.p (.int .u32) out)))], [(3, [], .box [.p (.int .i64) n.1, .p (.int .i64) n.2.1, .p (.sl (.pr (.int .i64) (.pr (.int .i64) (.int .i64)))) n.2.2.1, .p (.int .u32) n.2.2.2.1, .p (.int .u32) n.2.2.2.2])]⟩ : St)) (by kernel_rfl) ?_
      refine aw_exit ?_
      refine thenQ_x ?_
      refine thenQ_x ?_
      refine blockQ_hit ?_
      exact rest1 out h

end Dec
