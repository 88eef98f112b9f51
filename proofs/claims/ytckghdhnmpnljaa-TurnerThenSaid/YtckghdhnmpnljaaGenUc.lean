/-
  Printed by dec2.py: of each function its plain demand, and that the demand gives the contract.
-/
import Derived.Test.YtckghdhnmpnljaaGenUb
set_option linter.unusedVariables false
set_option linter.unusedSimpArgs false
set_option maxRecDepth 100000
namespace Dec
open Go Go.RowKit Go.Proofs

-- coppicer/coppicerref.MachineCheck
def VC21_k2 (m : (Int × (Int × ((List (List Int)) × (Int × Int))))) (K : Int → Prop) : Prop :=
  ((((decide (m.2.2.2.1 < (0 : Int))) || (decide (m.1 ≤ m.2.2.2.1))) = true → K (2 : Int)) ∧ (((decide (m.2.2.2.1 < (0 : Int))) || (decide (m.1 ≤ m.2.2.2.1))) = false → (0 ≤ (IntKind.wrap .u64 m.1) ∧ (((decide ((bShl .u32 (1 : Int) (IntKind.wrap .u64 m.1)) ≤ m.2.2.2.2)) = true → K (4 : Int)) ∧ ((decide ((bShl .u32 (1 : Int) (IntKind.wrap .u64 m.1)) ≤ m.2.2.2.2)) = false → K (0 : Int))))))

def VC21_k3 (v49 : Int) (X1 : Int → Prop) : Prop :=
  (InR (v49 + (1 : Int)) ∧ X1 (v49 + (1 : Int)))

def VC21_l2 (m : (Int × (Int × ((List (List Int)) × (Int × Int))))) (K : Int → Prop) (v49 : Int) (X1 : Int → Prop) (v55 : Int) (X2 : Int → Prop) : Prop :=
  (((decide (v55 < ((m.2.2.1.getD (v49).toNat ([] : (List Int))).length : Int))) = true → (inIdx v55 (m.2.2.1.getD (v49).toNat ([] : (List Int))).length ∧ ((((decide (((m.2.2.1.getD (v49).toNat ([] : (List Int))).getD (v55).toNat (0 : Int)) < (0 : Int))) || (decide (m.1 ≤ ((m.2.2.1.getD (v49).toNat ([] : (List Int))).getD (v55).toNat (0 : Int))))) = true → K (2 : Int)) ∧ (((decide (((m.2.2.1.getD (v49).toNat ([] : (List Int))).getD (v55).toNat (0 : Int)) < (0 : Int))) || (decide (m.1 ≤ ((m.2.2.1.getD (v49).toNat ([] : (List Int))).getD (v55).toNat (0 : Int))))) = false → (InR (v55 + (1 : Int)) ∧ X2 (v55 + (1 : Int))))))) ∧ ((decide (v55 < ((m.2.2.1.getD (v49).toNat ([] : (List Int))).length : Int))) = false → VC21_k3 v49 X1))

def VC21_l1 (m : (Int × (Int × ((List (List Int)) × (Int × Int))))) (K : Int → Prop) (v49 : Int) (X1 : Int → Prop) : Prop :=
  (((decide (v49 < (m.2.2.1.length : Int))) = true → (inIdx v49 m.2.2.1.length ∧ Loop (σ := Int) (fun s X => VC21_l2 m K v49 X1 s X) (0 : Int))) ∧ ((decide (v49 < (m.2.2.1.length : Int))) = false → VC21_k2 m K))

def VC21_k1 (m : (Int × (Int × ((List (List Int)) × (Int × Int))))) (K : Int → Prop) : Prop :=
  Loop (σ := Int) (fun s X => VC21_l1 m K s X) (0 : Int)

def VC21_l3 (m : (Int × (Int × ((List (List Int)) × (Int × Int))))) (K : Int → Prop) (v36 : Int) (X3 : Int → Prop) : Prop :=
  (((decide (v36 < (m.2.2.1.length : Int))) = true → (inIdx v36 m.2.2.1.length ∧ (((!decide (((m.2.2.1.getD (v36).toNat ([] : (List Int))).length : Int) = m.2.1)) = true → K (3 : Int)) ∧ ((!decide (((m.2.2.1.getD (v36).toNat ([] : (List Int))).length : Int) = m.2.1)) = false → (InR (v36 + (1 : Int)) ∧ X3 (v36 + (1 : Int))))))) ∧ ((decide (v36 < (m.2.2.1.length : Int))) = false → VC21_k1 m K))

def VC21 (m : (Int × (Int × ((List (List Int)) × (Int × Int))))) (K : Int → Prop) : Prop :=
  ((((((decide (m.1 < (1 : Int))) || (decide ((7 : Int) < m.1))) || (decide (m.2.1 < (1 : Int)))) || (decide ((3 : Int) < m.2.1))) = true → K (1 : Int)) ∧ (((((decide (m.1 < (1 : Int))) || (decide ((7 : Int) < m.1))) || (decide (m.2.1 < (1 : Int)))) || (decide ((3 : Int) < m.2.1))) = false → (((!decide ((m.2.2.1.length : Int) = m.1)) = true → K (3 : Int)) ∧ ((!decide ((m.2.2.1.length : Int) = m.1)) = false → Loop (σ := Int) (fun s X => VC21_l3 m K s X) (0 : Int)))))

set_option maxHeartbeats 4000000 in
theorem link21 (m : (Int × (Int × ((List (List Int)) × (Int × Int))))) (K : Int → Prop) (h : VC21 m K) : ACalls Try.prog 21 [toV1 (.pr (.int .i64) (.pr (.int .i64) (.pr (.sl (.sl (.int .i64))) (.pr (.int .i64) (.int .u32))))) m] (fun res => ∃ y, res = (fun y => [toV1 (.int .i64) y]) y ∧ K y) := by
  refine acalls_of_aw [(.int .i64)] [.t 2] Try.func21 rfl rfl rfl ?_
  unfold VC21 at h
  refine aw_seq ?_
  refine aw_region ?_
  refine awl_runp 2 [1] [1] (ob := (True ∧ True ∧ True)) (st' := (⟨86, [(1, [], .v (.c (.ptr 1 0)))], [(1, [], .box [.p (.int .i64) m.1, .p (.int .i64) m.2.1, .p (.sl (.sl (.int .i64))) m.2.2.1, .p (.int .i64) m.2.2.2.1, .p (.int .u32) m.2.2.2.2])]⟩ : St)) (by kernel_rfl) ⟨trivial, trivial, trivial⟩ ?_
  refine awl_nil ?_
  refine thenQ_n ?_
  refine aw_seq ?_
  refine aw_seq ?_
  refine aw_region ?_
  refine awl_runp 18 [1, 26] [1] (ob := (True ∧ True ∧ True ∧ True ∧ ((decide (m.1 < (1 : Int))) = false → True) ∧ ((decide (m.1 < (1 : Int))) = false → True) ∧ ((decide (m.1 < (1 : Int))) = false → True) ∧ True ∧ True ∧ (((decide (m.1 < (1 : Int))) || (decide ((7 : Int) < m.1))) = false → True) ∧ (((decide (m.1 < (1 : Int))) || (decide ((7 : Int) < m.1))) = false → True) ∧ (((decide (m.1 < (1 : Int))) || (decide ((7 : Int) < m.1))) = false → True) ∧ True ∧ True ∧ ((((decide (m.1 < (1 : Int))) || (decide ((7 : Int) < m.1))) || (decide (m.2.1 < (1 : Int)))) = false → True) ∧ ((((decide (m.1 < (1 : Int))) || (decide ((7 : Int) < m.1))) || (decide (m.2.1 < (1 : Int)))) = false → True) ∧ ((((decide (m.1 < (1 : Int))) || (decide ((7 : Int) < m.1))) || (decide (m.2.1 < (1 : Int)))) = false → True) ∧ True ∧ True)) (st' := (⟨86, [(1, [], .v (.c (.ptr 1 0))), (26, [], .v (.c (.p .bool ((((decide (m.1 < (1 : Int))) || (decide ((7 : Int) < m.1))) || (decide (m.2.1 < (1 : Int)))) || (decide ((3 : Int) < m.2.1))))))], [(1, [], .box [.p (.int .i64) m.1, .p (.int .i64) m.2.1, .p (.sl (.sl (.int .i64))) m.2.2.1, .p (.int .i64) m.2.2.2.1, .p (.int .u32) m.2.2.2.2])]⟩ : St)) (by kernel_rfl) ⟨trivial, trivial, trivial, trivial, (fun _ => trivial), (fun _ => trivial), (fun _ => trivial), trivial, trivial, (fun _ => trivial), (fun _ => trivial), (fun _ => trivial), trivial, trivial, (fun _ => trivial), (fun _ => trivial), (fun _ => trivial), trivial, trivial⟩ ?_
  refine awl_nil ?_
  refine thenQ_n ?_
  refine aw_cond (b := ((((decide (m.1 < (1 : Int))) || (decide ((7 : Int) < m.1))) || (decide (m.2.1 < (1 : Int)))) || (decide ((3 : Int) < m.2.1)))) (by kernel_rfl) (fun hb => ?_) (fun hb => ?_)
  · have h := h.1 hb
    refine aw_seq ?_
    refine aw_region ?_
    refine awl_runp 1 [2] [] (ob := (True ∧ True)) (st' := (⟨86, [(2, [], .v (.c (.p (.int .i64) (1 : Int))))], []⟩ : St)) (by kernel_rfl) ⟨trivial, trivial⟩ ?_
    refine awl_nil ?_
    refine thenQ_n ?_
    refine aw_ret ?_
    refine thenQ_r ?_
    exact retQ_r (σ := Int) (R := (fun y => [toV1 (.int .i64) y])) (ob := (True ∧ True)) (1 : Int) (by kernel_rfl) ⟨trivial, trivial⟩ h
  · have h := h.2 hb
    refine aw_skip ?_
    refine thenQ_n ?_
    refine aw_seq ?_
    refine aw_seq ?_
    refine aw_region ?_
    refine awl_runp 6 [1, 32] [1] (ob := (True ∧ True ∧ True ∧ True ∧ True ∧ True ∧ True)) (st' := (⟨86, [(1, [], .v (.c (.ptr 1 0))), (32, [], .v (.c (.p .bool (!decide ((m.2.2.1.length : Int) = m.1)))))], [(1, [], .box [.p (.int .i64) m.1, .p (.int .i64) m.2.1, .p (.sl (.sl (.int .i64))) m.2.2.1, .p (.int .i64) m.2.2.2.1, .p (.int .u32) m.2.2.2.2])]⟩ : St)) (by kernel_rfl) ⟨trivial, trivial, trivial, trivial, trivial, trivial, trivial⟩ ?_
    refine awl_nil ?_
    refine thenQ_n ?_
    refine aw_cond (b := (!decide ((m.2.2.1.length : Int) = m.1))) (by kernel_rfl) (fun hb => ?_) (fun hb => ?_)
    · have h := h.1 hb
      refine aw_seq ?_
      refine aw_region ?_
      refine awl_runp 1 [2] [] (ob := (True ∧ True)) (st' := (⟨86, [(2, [], .v (.c (.p (.int .i64) (3 : Int))))], []⟩ : St)) (by kernel_rfl) ⟨trivial, trivial⟩ ?_
      refine awl_nil ?_
      refine thenQ_n ?_
      refine aw_ret ?_
      refine thenQ_r ?_
      exact retQ_r (σ := Int) (R := (fun y => [toV1 (.int .i64) y])) (ob := (True ∧ True)) (3 : Int) (by kernel_rfl) ⟨trivial, trivial⟩ h
    · have h := h.2 hb
      refine aw_skip ?_
      refine thenQ_n ?_
      refine aw_seq ?_
      refine aw_seq ?_
      refine aw_region ?_
      refine awl_runp 4 [1, 34, 35, 36] [1] (ob := (True ∧ True ∧ True ∧ True ∧ True)) (st' := (⟨86, [(1, [], .v (.c (.ptr 1 0))), (34, [], .v (.c (.p (.sl (.sl (.int .i64))) m.2.2.1))), (35, [], .v (.c (.p (.int .i64) (m.2.2.1.length : Int)))), (36, [], .v (.c (.p (.int .i64) (0 : Int))))], [(1, [], .box [.p (.int .i64) m.1, .p (.int .i64) m.2.1, .p (.sl (.sl (.int .i64))) m.2.2.1, .p (.int .i64) m.2.2.2.1, .p (.int .u32) m.2.2.2.2])]⟩ : St)) (by kernel_rfl) ⟨trivial, trivial, trivial, trivial, trivial⟩ ?_
      refine awl_nil ?_
      refine thenQ_n ?_
      refine withJoin (σ := Unit) (fun s => (⟨86, [(1, [], .v (.c (.ptr 1 0)))], [(1, [], .box [.p (.int .i64) m.1, .p (.int .i64) m.2.1, .p (.sl (.sl (.int .i64))) m.2.2.1, .p (.int .i64) m.2.2.2.1, .p (.int .u32) m.2.2.2.2])]⟩ : St)) (fun s => VC21_k1 m K) (fun s h => ?_) (fun rest3 => ?_)
      · have h : VC21_k1 m K := h
        unfold VC21_k1 at h
        refine thenQ_n ?_
        refine aw_seq ?_
        refine aw_seq ?_
        refine aw_region ?_
        refine awl_runp 4 [1, 47, 48, 49] [1] (ob := (True ∧ True ∧ True ∧ True ∧ True)) (st' := (⟨86, [(1, [], .v (.c (.ptr 1 0))), (47, [], .v (.c (.p (.sl (.sl (.int .i64))) m.2.2.1))), (48, [], .v (.c (.p (.int .i64) (m.2.2.1.length : Int)))), (49, [], .v (.c (.p (.int .i64) (0 : Int))))], [(1, [], .box [.p (.int .i64) m.1, .p (.int .i64) m.2.1, .p (.sl (.sl (.int .i64))) m.2.2.1, .p (.int .i64) m.2.2.2.1, .p (.int .u32) m.2.2.2.2])]⟩ : St)) (by kernel_rfl) ⟨trivial, trivial, trivial, trivial, trivial⟩ ?_
        refine awl_nil ?_
        refine thenQ_n ?_
        refine withJoin (σ := Unit) (fun s => (⟨86, [(1, [], .v (.c (.ptr 1 0)))], [(1, [], .box [.p (.int .i64) m.1, .p (.int .i64) m.2.1, .p (.sl (.sl (.int .i64))) m.2.2.1, .p (.int .i64) m.2.2.2.1, .p (.int .u32) m.2.2.2.2])]⟩ : St)) (fun s => VC21_k2 m K) (fun s h => ?_) (fun rest1 => ?_)
        · have h : VC21_k2 m K := h
          unfold VC21_k2 at h
          refine thenQ_n ?_
          refine aw_seq ?_
          refine aw_seq ?_
          refine aw_region ?_
          refine awl_runp 10 [1, 78] [1] (ob := (True ∧ True ∧ True ∧ True ∧ ((decide (m.2.2.2.1 < (0 : Int))) = false → True) ∧ ((decide (m.2.2.2.1 < (0 : Int))) = false → True) ∧ ((decide (m.2.2.2.1 < (0 : Int))) = false → True) ∧ ((decide (m.2.2.2.1 < (0 : Int))) = false → True) ∧ ((decide (m.2.2.2.1 < (0 : Int))) = false → True) ∧ True ∧ True)) (st' := (⟨86, [(1, [], .v (.c (.ptr 1 0))), (78, [], .v (.c (.p .bool ((decide (m.2.2.2.1 < (0 : Int))) || (decide (m.1 ≤ m.2.2.2.1))))))], [(1, [], .box [.p (.int .i64) m.1, .p (.int .i64) m.2.1, .p (.sl (.sl (.int .i64))) m.2.2.1, .p (.int .i64) m.2.2.2.1, .p (.int .u32) m.2.2.2.2])]⟩ : St)) (by kernel_rfl) ⟨trivial, trivial, trivial, trivial, (fun _ => trivial), (fun _ => trivial), (fun _ => trivial), (fun _ => trivial), (fun _ => trivial), trivial, trivial⟩ ?_
          refine awl_nil ?_
          refine thenQ_n ?_
          refine aw_cond (b := ((decide (m.2.2.2.1 < (0 : Int))) || (decide (m.1 ≤ m.2.2.2.1)))) (by kernel_rfl) (fun hb => ?_) (fun hb => ?_)
          · have h := h.1 hb
            refine aw_seq ?_
            refine aw_region ?_
            refine awl_runp 1 [2] [] (ob := (True ∧ True)) (st' := (⟨86, [(2, [], .v (.c (.p (.int .i64) (2 : Int))))], []⟩ : St)) (by kernel_rfl) ⟨trivial, trivial⟩ ?_
            refine awl_nil ?_
            refine thenQ_n ?_
            refine aw_ret ?_
            refine thenQ_r ?_
            exact retQ_r (σ := Int) (R := (fun y => [toV1 (.int .i64) y])) (ob := (True ∧ True)) (2 : Int) (by kernel_rfl) ⟨trivial, trivial⟩ h
          · have h := h.2 hb
            refine aw_skip ?_
            refine thenQ_n ?_
            refine aw_seq ?_
            refine aw_seq ?_
            refine aw_region ?_
            obtain ⟨o1, h⟩ := h
            refine awl_runp 7 [85] [] (ob := (True ∧ True ∧ True ∧ True ∧ True ∧ 0 ≤ (IntKind.wrap .u64 m.1) ∧ True ∧ True)) (st' := (⟨86, [(85, [], .v (.c (.p .bool (decide ((bShl .u32 (1 : Int) (IntKind.wrap .u64 m.1)) ≤ m.2.2.2.2)))))], []⟩ : St)) (by kernel_rfl) ⟨trivial, trivial, trivial, trivial, trivial, o1, trivial, trivial⟩ ?_
            refine awl_nil ?_
            refine thenQ_n ?_
            refine aw_cond (b := (decide ((bShl .u32 (1 : Int) (IntKind.wrap .u64 m.1)) ≤ m.2.2.2.2))) (by kernel_rfl) (fun hb => ?_) (fun hb => ?_)
            · have h := h.1 hb
              refine aw_seq ?_
              refine aw_region ?_
              refine awl_runp 1 [2] [] (ob := (True ∧ True)) (st' := (⟨86, [(2, [], .v (.c (.p (.int .i64) (4 : Int))))], []⟩ : St)) (by kernel_rfl) ⟨trivial, trivial⟩ ?_
              refine awl_nil ?_
              refine thenQ_n ?_
              refine aw_ret ?_
              refine thenQ_r ?_
              exact retQ_r (σ := Int) (R := (fun y => [toV1 (.int .i64) y])) (ob := (True ∧ True)) (4 : Int) (by kernel_rfl) ⟨trivial, trivial⟩ h
            · have h := h.2 hb
              refine aw_skip ?_
              refine thenQ_n ?_
              refine aw_seq ?_
              refine aw_region ?_
              refine awl_runp 1 [2] [] (ob := (True ∧ True)) (st' := (⟨86, [(2, [], .v (.c (.p (.int .i64) (0 : Int))))], []⟩ : St)) (by kernel_rfl) ⟨trivial, trivial⟩ ?_
              refine awl_nil ?_
              refine thenQ_n ?_
              refine aw_ret ?_
              exact retQ_r (σ := Int) (R := (fun y => [toV1 (.int .i64) y])) (ob := (True ∧ True)) (0 : Int) (by kernel_rfl) ⟨trivial, trivial⟩ h
        · refine aw_block ?_
          refine aw_loop (σ := Int) (fun s => (⟨86, [(1, [], .v (.c (.ptr 1 0))), (47, [], .v (.c (.p (.sl (.sl (.int .i64))) m.2.2.1))), (48, [], .v (.c (.p (.int .i64) (m.2.2.1.length : Int)))), (49, [], .v (.c (.p (.int .i64) s)))], [(1, [], .box [.p (.int .i64) m.1, .p (.int .i64) m.2.1, .p (.sl (.sl (.int .i64))) m.2.2.1, .p (.int .i64) m.2.2.2.1, .p (.int .u32) m.2.2.2.2])]⟩ : St)) (fun s X => VC21_l1 m K s X) (s0 := (0 : Int)) (fun v49 X1 h => ?_) h
          have h : VC21_l1 m K v49 X1 := h
          unfold VC21_l1 at h
          refine aw_seq ?_
          refine aw_region ?_
          refine awl_runp 1 [1, 47, 48, 49, 50] [1] (ob := (True ∧ True)) (st' := (⟨86, [(1, [], .v (.c (.ptr 1 0))), (47, [], .v (.c (.p (.sl (.sl (.int .i64))) m.2.2.1))), (48, [], .v (.c (.p (.int .i64) (m.2.2.1.length : Int)))), (49, [], .v (.c (.p (.int .i64) v49))), (50, [], .v (.c (.p .bool (decide (v49 < (m.2.2.1.length : Int))))))], [(1, [], .box [.p (.int .i64) m.1, .p (.int .i64) m.2.1, .p (.sl (.sl (.int .i64))) m.2.2.1, .p (.int .i64) m.2.2.2.1, .p (.int .u32) m.2.2.2.2])]⟩ : St)) (by kernel_rfl) ⟨trivial, trivial⟩ ?_
          refine awl_nil ?_
          refine thenQ_n ?_
          refine aw_seq ?_
          refine aw_cond (b := (decide (v49 < (m.2.2.1.length : Int)))) (by kernel_rfl) (fun hb => ?_) (fun hb => ?_)
          · have h := h.1 hb
            refine aw_skip ?_
            refine thenQ_n ?_
            refine aw_seq ?_
            refine aw_block ?_
            refine aw_seq ?_
            refine aw_region ?_
            obtain ⟨o1, h⟩ := h
            refine awl_runp 3 [1, 6, 47, 48, 49] [1] (ob := (inIdx v49 m.2.2.1.length ∧ True ∧ True ∧ True)) (st' := (⟨86, [(1, [], .v (.c (.ptr 1 0))), (6, [], .v (.c (.p (.sl (.int .i64)) (m.2.2.1.getD (v49).toNat ([] : (List Int)))))), (47, [], .v (.c (.p (.sl (.sl (.int .i64))) m.2.2.1))), (48, [], .v (.c (.p (.int .i64) (m.2.2.1.length : Int)))), (49, [], .v (.c (.p (.int .i64) v49)))], [(1, [], .box [.p (.int .i64) m.1, .p (.int .i64) m.2.1, .p (.sl (.sl (.int .i64))) m.2.2.1, .p (.int .i64) m.2.2.2.1, .p (.int .u32) m.2.2.2.2])]⟩ : St)) (by kernel_rfl) ⟨o1, trivial, trivial, trivial⟩ ?_
            refine awl_nil ?_
            refine thenQ_n ?_
            refine aw_seq ?_
            refine aw_region ?_
            refine awl_runp 3 [1, 47, 48, 49, 53, 54, 55] [1] (ob := (True ∧ True ∧ True ∧ True)) (st' := (⟨86, [(1, [], .v (.c (.ptr 1 0))), (47, [], .v (.c (.p (.sl (.sl (.int .i64))) m.2.2.1))), (48, [], .v (.c (.p (.int .i64) (m.2.2.1.length : Int)))), (49, [], .v (.c (.p (.int .i64) v49))), (53, [], .v (.c (.p (.sl (.int .i64)) (m.2.2.1.getD (v49).toNat ([] : (List Int)))))), (54, [], .v (.c (.p (.int .i64) ((m.2.2.1.getD (v49).toNat ([] : (List Int))).length : Int)))), (55, [], .v (.c (.p (.int .i64) (0 : Int))))], [(1, [], .box [.p (.int .i64) m.1, .p (.int .i64) m.2.1, .p (.sl (.sl (.int .i64))) m.2.2.1, .p (.int .i64) m.2.2.2.1, .p (.int .u32) m.2.2.2.2])]⟩ : St)) (by kernel_rfl) ⟨trivial, trivial, trivial, trivial⟩ ?_
            refine awl_nil ?_
            refine thenQ_n ?_
            refine withJoin (σ := Unit) (fun s => (⟨86, [(1, [], .v (.c (.ptr 1 0))), (47, [], .v (.c (.p (.sl (.sl (.int .i64))) m.2.2.1))), (48, [], .v (.c (.p (.int .i64) (m.2.2.1.length : Int)))), (49, [], .v (.c (.p (.int .i64) v49)))], [(1, [], .box [.p (.int .i64) m.1, .p (.int .i64) m.2.1, .p (.sl (.sl (.int .i64))) m.2.2.1, .p (.int .i64) m.2.2.2.1, .p (.int .u32) m.2.2.2.2])]⟩ : St)) (fun s => VC21_k3 v49 X1) (fun s h => ?_) (fun rest2 => ?_)
            · have h : VC21_k3 v49 X1 := h
              unfold VC21_k3 at h
              refine blockQ_n ?_
              refine thenQ_n ?_
              refine aw_region ?_
              obtain ⟨o1, h⟩ := h
              refine awl_runp 2 [1, 47, 48, 49] [1] (ob := (InR (v49 + (1 : Int)) ∧ True ∧ True)) (st' := (⟨86, [(1, [], .v (.c (.ptr 1 0))), (47, [], .v (.c (.p (.sl (.sl (.int .i64))) m.2.2.1))), (48, [], .v (.c (.p (.int .i64) (m.2.2.1.length : Int)))), (49, [], .v (.c (.p (.int .i64) (v49 + (1 : Int)))))], [(1, [], .box [.p (.int .i64) m.1, .p (.int .i64) m.2.1, .p (.sl (.sl (.int .i64))) m.2.2.1, .p (.int .i64) m.2.2.2.1, .p (.int .u32) m.2.2.2.2])]⟩ : St)) (by kernel_rfl) ⟨o1, trivial, trivial⟩ ?_
              refine awl_nil ?_
              exact thenQ_n ⟨(v49 + (1 : Int)), rfl, h⟩
            · refine aw_block ?_
              refine aw_loop (σ := Int) (fun s => (⟨86, [(1, [], .v (.c (.ptr 1 0))), (47, [], .v (.c (.p (.sl (.sl (.int .i64))) m.2.2.1))), (48, [], .v (.c (.p (.int .i64) (m.2.2.1.length : Int)))), (49, [], .v (.c (.p (.int .i64) v49))), (53, [], .v (.c (.p (.sl (.int .i64)) (m.2.2.1.getD (v49).toNat ([] : (List Int)))))), (54, [], .v (.c (.p (.int .i64) ((m.2.2.1.getD (v49).toNat ([] : (List Int))).length : Int)))), (55, [], .v (.c (.p (.int .i64) s)))], [(1, [], .box [.p (.int .i64) m.1, .p (.int .i64) m.2.1, .p (.sl (.sl (.int .i64))) m.2.2.1, .p (.int .i64) m.2.2.2.1, .p (.int .u32) m.2.2.2.2])]⟩ : St)) (fun s X => VC21_l2 m K v49 X1 s X) (s0 := (0 : Int)) (fun v55 X2 h => ?_) h
              have h : VC21_l2 m K v49 X1 v55 X2 := h
              unfold VC21_l2 at h
              refine aw_seq ?_
              refine aw_region ?_
              refine awl_runp 1 [1, 47, 48, 49, 53, 54, 55, 56] [1] (ob := (True ∧ True)) (st' := (⟨86, [(1, [], .v (.c (.ptr 1 0))), (47, [], .v (.c (.p (.sl (.sl (.int .i64))) m.2.2.1))), (48, [], .v (.c (.p (.int .i64) (m.2.2.1.length : Int)))), (49, [], .v (.c (.p (.int .i64) v49))), (53, [], .v (.c (.p (.sl (.int .i64)) (m.2.2.1.getD (v49).toNat ([] : (List Int)))))), (54, [], .v (.c (.p (.int .i64) ((m.2.2.1.getD (v49).toNat ([] : (List Int))).length : Int)))), (55, [], .v (.c (.p (.int .i64) v55))), (56, [], .v (.c (.p .bool (decide (v55 < ((m.2.2.1.getD (v49).toNat ([] : (List Int))).length : Int))))))], [(1, [], .box [.p (.int .i64) m.1, .p (.int .i64) m.2.1, .p (.sl (.sl (.int .i64))) m.2.2.1, .p (.int .i64) m.2.2.2.1, .p (.int .u32) m.2.2.2.2])]⟩ : St)) (by kernel_rfl) ⟨trivial, trivial⟩ ?_
              refine awl_nil ?_
              refine thenQ_n ?_
              refine aw_seq ?_
              refine aw_cond (b := (decide (v55 < ((m.2.2.1.getD (v49).toNat ([] : (List Int))).length : Int)))) (by kernel_rfl) (fun hb => ?_) (fun hb => ?_)
              · have h := h.1 hb
                refine aw_skip ?_
                refine thenQ_n ?_
                refine aw_seq ?_
                refine aw_block ?_
                refine aw_seq ?_
                refine aw_region ?_
                obtain ⟨o1, h⟩ := h
                refine awl_runp 3 [1, 8, 47, 48, 49, 53, 54, 55] [1] (ob := (inIdx v55 (m.2.2.1.getD (v49).toNat ([] : (List Int))).length ∧ True ∧ True ∧ True)) (st' := (⟨86, [(1, [], .v (.c (.ptr 1 0))), (8, [], .v (.c (.p (.int .i64) ((m.2.2.1.getD (v49).toNat ([] : (List Int))).getD (v55).toNat (0 : Int))))), (47, [], .v (.c (.p (.sl (.sl (.int .i64))) m.2.2.1))), (48, [], .v (.c (.p (.int .i64) (m.2.2.1.length : Int)))), (49, [], .v (.c (.p (.int .i64) v49))), (53, [], .v (.c (.p (.sl (.int .i64)) (m.2.2.1.getD (v49).toNat ([] : (List Int)))))), (54, [], .v (.c (.p (.int .i64) ((m.2.2.1.getD (v49).toNat ([] : (List Int))).length : Int)))), (55, [], .v (.c (.p (.int .i64) v55)))], [(1, [], .box [.p (.int .i64) m.1, .p (.int .i64) m.2.1, .p (.sl (.sl (.int .i64))) m.2.2.1, .p (.int .i64) m.2.2.2.1, .p (.int .u32) m.2.2.2.2])]⟩ : St)) (by kernel_rfl) ⟨o1, trivial, trivial, trivial⟩ ?_
                refine awl_nil ?_
                refine thenQ_n ?_
                refine aw_seq ?_
                refine aw_region ?_
                refine awl_runp 8 [1, 47, 48, 49, 53, 54, 55, 66] [1] (ob := (True ∧ True ∧ True ∧ ((decide (((m.2.2.1.getD (v49).toNat ([] : (List Int))).getD (v55).toNat (0 : Int)) < (0 : Int))) = false → True) ∧ ((decide (((m.2.2.1.getD (v49).toNat ([] : (List Int))).getD (v55).toNat (0 : Int)) < (0 : Int))) = false → True) ∧ ((decide (((m.2.2.1.getD (v49).toNat ([] : (List Int))).getD (v55).toNat (0 : Int)) < (0 : Int))) = false → True) ∧ ((decide (((m.2.2.1.getD (v49).toNat ([] : (List Int))).getD (v55).toNat (0 : Int)) < (0 : Int))) = false → True) ∧ True ∧ True)) (st' := (⟨86, [(1, [], .v (.c (.ptr 1 0))), (47, [], .v (.c (.p (.sl (.sl (.int .i64))) m.2.2.1))), (48, [], .v (.c (.p (.int .i64) (m.2.2.1.length : Int)))), (49, [], .v (.c (.p (.int .i64) v49))), (53, [], .v (.c (.p (.sl (.int .i64)) (m.2.2.1.getD (v49).toNat ([] : (List Int)))))), (54, [], .v (.c (.p (.int .i64) ((m.2.2.1.getD (v49).toNat ([] : (List Int))).length : Int)))), (55, [], .v (.c (.p (.int .i64) v55))), (66, [], .v (.c (.p .bool ((decide (((m.2.2.1.getD (v49).toNat ([] : (List Int))).getD (v55).toNat (0 : Int)) < (0 : Int))) || (decide (m.1 ≤ ((m.2.2.1.getD (v49).toNat ([] : (List Int))).getD (v55).toNat (0 : Int))))))))], [(1, [], .box [.p (.int .i64) m.1, .p (.int .i64) m.2.1, .p (.sl (.sl (.int .i64))) m.2.2.1, .p (.int .i64) m.2.2.2.1, .p (.int .u32) m.2.2.2.2])]⟩ : St)) (by kernel_rfl) ⟨trivial, trivial, trivial, (fun _ => trivial), (fun _ => trivial), (fun _ => trivial), (fun _ => trivial), trivial, trivial⟩ ?_
                refine awl_nil ?_
                refine thenQ_n ?_
                refine aw_cond (b := ((decide (((m.2.2.1.getD (v49).toNat ([] : (List Int))).getD (v55).toNat (0 : Int)) < (0 : Int))) || (decide (m.1 ≤ ((m.2.2.1.getD (v49).toNat ([] : (List Int))).getD (v55).toNat (0 : Int)))))) (by kernel_rfl) (fun hb => ?_) (fun hb => ?_)
                · have h := h.1 hb
                  refine aw_seq ?_
                  refine aw_region ?_
                  refine awl_runp 1 [2] [] (ob := (True ∧ True)) (st' := (⟨86, [(2, [], .v (.c (.p (.int .i64) (2 : Int))))], []⟩ : St)) (by kernel_rfl) ⟨trivial, trivial⟩ ?_
                  refine awl_nil ?_
                  refine thenQ_n ?_
                  refine aw_ret ?_
                  refine blockQ_r ?_
                  refine thenQ_r ?_
                  refine thenQ_r ?_
                  refine blockQ_r ?_
                  refine blockQ_r ?_
                  refine thenQ_r ?_
                  refine thenQ_r ?_
                  refine blockQ_r ?_
                  refine thenQ_r ?_
                  exact retQ_r (σ := Int) (R := (fun y => [toV1 (.int .i64) y])) (ob := (True ∧ True)) (2 : Int) (by kernel_rfl) ⟨trivial, trivial⟩ h
                · have h := h.2 hb
                  refine aw_skip ?_
                  refine blockQ_n ?_
                  refine thenQ_n ?_
                  refine aw_region ?_
                  obtain ⟨o1, h⟩ := h
                  refine awl_runp 2 [1, 47, 48, 49, 53, 54, 55] [1] (ob := (InR (v55 + (1 : Int)) ∧ True ∧ True)) (st' := (⟨86, [(1, [], .v (.c (.ptr 1 0))), (47, [], .v (.c (.p (.sl (.sl (.int .i64))) m.2.2.1))), (48, [], .v (.c (.p (.int .i64) (m.2.2.1.length : Int)))), (49, [], .v (.c (.p (.int .i64) v49))), (53, [], .v (.c (.p (.sl (.int .i64)) (m.2.2.1.getD (v49).toNat ([] : (List Int)))))), (54, [], .v (.c (.p (.int .i64) ((m.2.2.1.getD (v49).toNat ([] : (List Int))).length : Int)))), (55, [], .v (.c (.p (.int .i64) (v55 + (1 : Int)))))], [(1, [], .box [.p (.int .i64) m.1, .p (.int .i64) m.2.1, .p (.sl (.sl (.int .i64))) m.2.2.1, .p (.int .i64) m.2.2.2.1, .p (.int .u32) m.2.2.2.2])]⟩ : St)) (by kernel_rfl) ⟨o1, trivial, trivial⟩ ?_
                  refine awl_nil ?_
                  exact thenQ_n ⟨(v55 + (1 : Int)), rfl, h⟩
              · have h := h.2 hb
                refine aw_conv [.prune [1, 47, 48, 49] [1]] (st' := (⟨86, [(1, [], .v (.c (.ptr 1 0))), (47, [], .v (.c (.p (.sl (.sl (.int .i64))) m.2.2.1))), (48, [], .v (.c (.p (.int .i64) (m.2.2.1.length : Int)))), (49, [], .v (.c (.p (.int .i64) v49)))], [(1, [], .box [.p (.int .i64) m.1, .p (.int .i64) m.2.1, .p (.sl (.sl (.int .i64))) m.2.2.1, .p (.int .i64) m.2.2.2.1, .p (.int .u32) m.2.2.2.2])]⟩ : St)) (by kernel_rfl) ?_
                refine aw_exit ?_
                refine thenQ_x ?_
                refine thenQ_x ?_
                refine blockQ_hit ?_
                exact rest2 () h
          · have h := h.2 hb
            refine aw_conv [.prune [1] [1]] (st' := (⟨86, [(1, [], .v (.c (.ptr 1 0)))], [(1, [], .box [.p (.int .i64) m.1, .p (.int .i64) m.2.1, .p (.sl (.sl (.int .i64))) m.2.2.1, .p (.int .i64) m.2.2.2.1, .p (.int .u32) m.2.2.2.2])]⟩ : St)) (by kernel_rfl) ?_
            refine aw_exit ?_
            refine thenQ_x ?_
            refine thenQ_x ?_
            refine blockQ_hit ?_
            exact rest1 () h
      · refine aw_block ?_
        refine aw_loop (σ := Int) (fun s => (⟨86, [(1, [], .v (.c (.ptr 1 0))), (34, [], .v (.c (.p (.sl (.sl (.int .i64))) m.2.2.1))), (35, [], .v (.c (.p (.int .i64) (m.2.2.1.length : Int)))), (36, [], .v (.c (.p (.int .i64) s)))], [(1, [], .box [.p (.int .i64) m.1, .p (.int .i64) m.2.1, .p (.sl (.sl (.int .i64))) m.2.2.1, .p (.int .i64) m.2.2.2.1, .p (.int .u32) m.2.2.2.2])]⟩ : St)) (fun s X => VC21_l3 m K s X) (s0 := (0 : Int)) (fun v36 X3 h => ?_) h
        have h : VC21_l3 m K v36 X3 := h
        unfold VC21_l3 at h
        refine aw_seq ?_
        refine aw_region ?_
        refine awl_runp 1 [1, 34, 35, 36, 37] [1] (ob := (True ∧ True)) (st' := (⟨86, [(1, [], .v (.c (.ptr 1 0))), (34, [], .v (.c (.p (.sl (.sl (.int .i64))) m.2.2.1))), (35, [], .v (.c (.p (.int .i64) (m.2.2.1.length : Int)))), (36, [], .v (.c (.p (.int .i64) v36))), (37, [], .v (.c (.p .bool (decide (v36 < (m.2.2.1.length : Int))))))], [(1, [], .box [.p (.int .i64) m.1, .p (.int .i64) m.2.1, .p (.sl (.sl (.int .i64))) m.2.2.1, .p (.int .i64) m.2.2.2.1, .p (.int .u32) m.2.2.2.2])]⟩ : St)) (by kernel_rfl) ⟨trivial, trivial⟩ ?_
        refine awl_nil ?_
        refine thenQ_n ?_
        refine aw_seq ?_
        refine aw_cond (b := (decide (v36 < (m.2.2.1.length : Int)))) (by kernel_rfl) (fun hb => ?_) (fun hb => ?_)
        · have h := h.1 hb
          refine aw_skip ?_
          refine thenQ_n ?_
          refine aw_seq ?_
          refine aw_block ?_
          refine aw_seq ?_
          refine aw_region ?_
          obtain ⟨o1, h⟩ := h
          refine awl_runp 3 [1, 4, 34, 35, 36] [1] (ob := (inIdx v36 m.2.2.1.length ∧ True ∧ True ∧ True)) (st' := (⟨86, [(1, [], .v (.c (.ptr 1 0))), (4, [], .v (.c (.p (.sl (.int .i64)) (m.2.2.1.getD (v36).toNat ([] : (List Int)))))), (34, [], .v (.c (.p (.sl (.sl (.int .i64))) m.2.2.1))), (35, [], .v (.c (.p (.int .i64) (m.2.2.1.length : Int)))), (36, [], .v (.c (.p (.int .i64) v36)))], [(1, [], .box [.p (.int .i64) m.1, .p (.int .i64) m.2.1, .p (.sl (.sl (.int .i64))) m.2.2.1, .p (.int .i64) m.2.2.2.1, .p (.int .u32) m.2.2.2.2])]⟩ : St)) (by kernel_rfl) ⟨o1, trivial, trivial, trivial⟩ ?_
          refine awl_nil ?_
          refine thenQ_n ?_
          refine aw_seq ?_
          refine aw_region ?_
          refine awl_runp 5 [1, 34, 35, 36, 44] [1] (ob := (True ∧ True ∧ True ∧ True ∧ True ∧ True)) (st' := (⟨86, [(1, [], .v (.c (.ptr 1 0))), (34, [], .v (.c (.p (.sl (.sl (.int .i64))) m.2.2.1))), (35, [], .v (.c (.p (.int .i64) (m.2.2.1.length : Int)))), (36, [], .v (.c (.p (.int .i64) v36))), (44, [], .v (.c (.p .bool (!decide (((m.2.2.1.getD (v36).toNat ([] : (List Int))).length : Int) = m.2.1)))))], [(1, [], .box [.p (.int .i64) m.1, .p (.int .i64) m.2.1, .p (.sl (.sl (.int .i64))) m.2.2.1, .p (.int .i64) m.2.2.2.1, .p (.int .u32) m.2.2.2.2])]⟩ : St)) (by kernel_rfl) ⟨trivial, trivial, trivial, trivial, trivial, trivial⟩ ?_
          refine awl_nil ?_
          refine thenQ_n ?_
          refine aw_cond (b := (!decide (((m.2.2.1.getD (v36).toNat ([] : (List Int))).length : Int) = m.2.1))) (by kernel_rfl) (fun hb => ?_) (fun hb => ?_)
          · have h := h.1 hb
            refine aw_seq ?_
            refine aw_region ?_
            refine awl_runp 1 [2] [] (ob := (True ∧ True)) (st' := (⟨86, [(2, [], .v (.c (.p (.int .i64) (3 : Int))))], []⟩ : St)) (by kernel_rfl) ⟨trivial, trivial⟩ ?_
            refine awl_nil ?_
            refine thenQ_n ?_
            refine aw_ret ?_
            refine blockQ_r ?_
            refine thenQ_r ?_
            refine thenQ_r ?_
            refine blockQ_r ?_
            refine thenQ_r ?_
            exact retQ_r (σ := Int) (R := (fun y => [toV1 (.int .i64) y])) (ob := (True ∧ True)) (3 : Int) (by kernel_rfl) ⟨trivial, trivial⟩ h
          · have h := h.2 hb
            refine aw_skip ?_
            refine blockQ_n ?_
            refine thenQ_n ?_
            refine aw_region ?_
            obtain ⟨o1, h⟩ := h
            refine awl_runp 2 [1, 34, 35, 36] [1] (ob := (InR (v36 + (1 : Int)) ∧ True ∧ True)) (st' := (⟨86, [(1, [], .v (.c (.ptr 1 0))), (34, [], .v (.c (.p (.sl (.sl (.int .i64))) m.2.2.1))), (35, [], .v (.c (.p (.int .i64) (m.2.2.1.length : Int)))), (36, [], .v (.c (.p (.int .i64) (v36 + (1 : Int)))))], [(1, [], .box [.p (.int .i64) m.1, .p (.int .i64) m.2.1, .p (.sl (.sl (.int .i64))) m.2.2.1, .p (.int .i64) m.2.2.2.1, .p (.int .u32) m.2.2.2.2])]⟩ : St)) (by kernel_rfl) ⟨o1, trivial, trivial⟩ ?_
            refine awl_nil ?_
            exact thenQ_n ⟨(v36 + (1 : Int)), rfl, h⟩
        · have h := h.2 hb
          refine aw_conv [.prune [1] [1]] (st' := (⟨86, [(1, [], .v (.c (.ptr 1 0)))], [(1, [], .box [.p (.int .i64) m.1, .p (.int .i64) m.2.1, .p (.sl (.sl (.int .i64))) m.2.2.1, .p (.int .i64) m.2.2.2.1, .p (.int .u32) m.2.2.2.2])]⟩ : St)) (by kernel_rfl) ?_
          refine aw_exit ?_
          refine thenQ_x ?_
          refine thenQ_x ?_
          refine blockQ_hit ?_
          exact rest3 () h

-- coppicer/machine.Run
def VC22_k1 (m : (Int × (Int × ((List (List Int)) × (Int × Int))))) (K : Int × Bool × Int → Prop) (atv : Int) : Prop :=
  VC44 m.2.2.2.2 atv (fun (ret45v : Bool) => K (atv, ret45v, (0 : Int)))

def VC22_l1 (m : (Int × (Int × ((List (List Int)) × (Int × Int))))) (w : (List Int)) (K : Int × Bool × Int → Prop) (atv : Int) (v28 : Int) (X1 : Int × Int → Prop) : Prop :=
  (((decide (v28 < (w.length : Int))) = true → (inIdx v28 w.length ∧ (inIdx atv m.2.2.1.length ∧ inIdx (w.getD (v28).toNat (0 : Int)) (m.2.2.1.getD (atv).toNat ([] : (List Int))).length ∧ (InR (v28 + (1 : Int)) ∧ X1 (((m.2.2.1.getD (atv).toNat ([] : (List Int))).getD ((w.getD (v28).toNat (0 : Int))).toNat (0 : Int)), (v28 + (1 : Int))))))) ∧ ((decide (v28 < (w.length : Int))) = false → VC22_k1 m K atv))

def VC22 (m : (Int × (Int × ((List (List Int)) × (Int × Int))))) (w : (List Int)) (K : Int × Bool × Int → Prop) : Prop :=
  VC43 m (fun (ret13v : Int) => (((!decide (ret13v = (0 : Int))) = true → K ((0 : Int), false, ret13v)) ∧ ((!decide (ret13v = (0 : Int))) = false → VC40 m.2.1 w (fun (ret20v : Int) => (((!decide (ret20v = (0 : Int))) = true → K ((0 : Int), false, ret20v)) ∧ ((!decide (ret20v = (0 : Int))) = false → Loop (σ := Int × Int) (fun s X => VC22_l1 m w K s.1 s.2 X) (m.2.2.2.1, (0 : Int))))))))

set_option maxHeartbeats 4000000 in
theorem link22 (m : (Int × (Int × ((List (List Int)) × (Int × Int))))) (w : (List Int)) (K : Int × Bool × Int → Prop) (h : VC22 m w K) : ACalls Try.prog 22 [toV1 (.pr (.int .i64) (.pr (.int .i64) (.pr (.sl (.sl (.int .i64))) (.pr (.int .i64) (.int .u32))))) m, toV1 (.sl (.int .i64)) w] (fun res => ∃ y, res = (fun y => [toV1 (.int .i64) y.1, toV1 .bool y.2.1, toV1 (.int .i64) y.2.2]) y ∧ K y) := by
  refine acalls_of_aw [(.int .i64), .bool, (.int .i64)] [.t 4, .t 5, .t 6] Try.func22 rfl rfl rfl ?_
  unfold VC22 at h
  refine aw_seq ?_
  refine aw_region ?_
  refine awl_runp 4 [1, 2] [2] (ob := (True ∧ True ∧ True ∧ True ∧ True)) (st' := (⟨46, [(1, [], .v (.c (.p (.sl (.int .i64)) w))), (2, [], .v (.c (.ptr 2 0)))], [(2, [], .box [.p (.int .i64) m.1, .p (.int .i64) m.2.1, .p (.sl (.sl (.int .i64))) m.2.2.1, .p (.int .i64) m.2.2.2.1, .p (.int .u32) m.2.2.2.2])]⟩ : St)) (by kernel_rfl) ⟨trivial, trivial, trivial, trivial, trivial⟩ ?_
  refine awl_nil ?_
  refine thenQ_n ?_
  refine aw_seq ?_
  refine aw_seq ?_
  refine aw_region ?_
  refine awl_runp 1 [1, 2, 12] [2] (ob := (True ∧ True)) (st' := (⟨46, [(1, [], .v (.c (.p (.sl (.int .i64)) w))), (2, [], .v (.c (.ptr 2 0))), (12, [], .v (.agg [.p (.int .i64) m.1, .p (.int .i64) m.2.1, .p (.sl (.sl (.int .i64))) m.2.2.1, .p (.int .i64) m.2.2.2.1, .p (.int .u32) m.2.2.2.2]))], [(2, [], .box [.p (.int .i64) m.1, .p (.int .i64) m.2.1, .p (.sl (.sl (.int .i64))) m.2.2.1, .p (.int .i64) m.2.2.2.1, .p (.int .u32) m.2.2.2.2])]⟩ : St)) (by kernel_rfl) ⟨trivial, trivial⟩ ?_
  refine awl_callk (p := []) (l := [toV1 (.pr (.int .i64) (.pr (.int .i64) (.pr (.sl (.sl (.int .i64))) (.pr (.int .i64) (.int .u32))))) m]) (cl := []) false [.d (.pr (.int .i64) (.pr (.int .i64) (.pr (.sl (.sl (.int .i64))) (.pr (.int .i64) (.int .u32)))))] [1, 2, 13] [2] (fun (ret13v : Int) => (((!decide (ret13v = (0 : Int))) = true → K ((0 : Int), false, ret13v)) ∧ ((!decide (ret13v = (0 : Int))) = false → VC40 m.2.1 w (fun (ret20v : Int) => (((!decide (ret20v = (0 : Int))) = true → K ((0 : Int), false, ret20v)) ∧ ((!decide (ret20v = (0 : Int))) = false → Loop (σ := Int × Int) (fun s X => VC22_l1 m w K s.1 s.2 X) (m.2.2.2.1, (0 : Int)))))))) (fun ret13v => [toV1 (.int .i64) ret13v]) (fun ret13v => (⟨46, [(1, [], .v (.c (.p (.sl (.int .i64)) w))), (2, [], .v (.c (.ptr 2 0))), (13, [], .v (.c (.p (.int .i64) ret13v)))], [(2, [], .box [.p (.int .i64) m.1, .p (.int .i64) m.2.1, .p (.sl (.sl (.int .i64))) m.2.2.1, .p (.int .i64) m.2.2.2.1, .p (.int .u32) m.2.2.2.2])]⟩ : St)) (by kernel_rfl) rfl (by kernel_rfl) rfl (by kernel_rfl) Try.call43 (by kernel_rfl) (fun ret13v => by kernel_rfl) (fun e => by cases e) (fun hg => link43 m _ h) (fun hg => noF hg) (fun ret13v h => ?_)
  have h : (((!decide (ret13v = (0 : Int))) = true → K ((0 : Int), false, ret13v)) ∧ ((!decide (ret13v = (0 : Int))) = false → VC40 m.2.1 w (fun (ret20v : Int) => (((!decide (ret20v = (0 : Int))) = true → K ((0 : Int), false, ret20v)) ∧ ((!decide (ret20v = (0 : Int))) = false → Loop (σ := Int × Int) (fun s X => VC22_l1 m w K s.1 s.2 X) (m.2.2.2.1, (0 : Int))))))) := h
  refine awl_runp 1 [1, 2, 7] [2] (ob := (True ∧ True)) (st' := (⟨46, [(1, [], .v (.c (.p (.sl (.int .i64)) w))), (2, [], .v (.c (.ptr 2 0))), (7, [], .v (.c (.p (.int .i64) ret13v)))], [(2, [], .box [.p (.int .i64) m.1, .p (.int .i64) m.2.1, .p (.sl (.sl (.int .i64))) m.2.2.1, .p (.int .i64) m.2.2.2.1, .p (.int .u32) m.2.2.2.2])]⟩ : St)) (by kernel_rfl) ⟨trivial, trivial⟩ ?_
  refine awl_nil ?_
  refine thenQ_n ?_
  refine aw_seq ?_
  refine aw_region ?_
  refine awl_runp 2 [1, 2, 7, 15] [2] (ob := (True ∧ True ∧ True)) (st' := (⟨46, [(1, [], .v (.c (.p (.sl (.int .i64)) w))), (2, [], .v (.c (.ptr 2 0))), (7, [], .v (.c (.p (.int .i64) ret13v))), (15, [], .v (.c (.p .bool (!decide (ret13v = (0 : Int))))))], [(2, [], .box [.p (.int .i64) m.1, .p (.int .i64) m.2.1, .p (.sl (.sl (.int .i64))) m.2.2.1, .p (.int .i64) m.2.2.2.1, .p (.int .u32) m.2.2.2.2])]⟩ : St)) (by kernel_rfl) ⟨trivial, trivial, trivial⟩ ?_
  refine awl_nil ?_
  refine thenQ_n ?_
  refine aw_cond (b := (!decide (ret13v = (0 : Int)))) (by kernel_rfl) (fun hb => ?_) (fun hb => ?_)
  · have h := h.1 hb
    refine aw_seq ?_
    refine aw_region ?_
    refine awl_runp 4 [4, 5, 6] [] (ob := (True ∧ True ∧ True ∧ True ∧ True)) (st' := (⟨46, [(4, [], .v (.c (.p (.int .i64) (0 : Int)))), (5, [], .v (.c (.p .bool false))), (6, [], .v (.c (.p (.int .i64) ret13v)))], []⟩ : St)) (by kernel_rfl) ⟨trivial, trivial, trivial, trivial, trivial⟩ ?_
    refine awl_nil ?_
    refine thenQ_n ?_
    refine aw_ret ?_
    refine thenQ_r ?_
    exact retQ_r (σ := Int × Bool × Int) (R := (fun y => [toV1 (.int .i64) y.1, toV1 .bool y.2.1, toV1 (.int .i64) y.2.2])) (ob := (True ∧ True ∧ True ∧ True)) ((0 : Int), false, ret13v) (by kernel_rfl) ⟨trivial, trivial, trivial, trivial⟩ h
  · have h := h.2 hb
    refine aw_skip ?_
    refine thenQ_n ?_
    refine aw_seq ?_
    refine aw_seq ?_
    refine aw_region ?_
    refine awl_runp 3 [1, 2, 18, 19] [2] (ob := (True ∧ True ∧ True ∧ True)) (st' := (⟨46, [(1, [], .v (.c (.p (.sl (.int .i64)) w))), (2, [], .v (.c (.ptr 2 0))), (18, [], .v (.c (.p (.int .i64) m.2.1))), (19, [], .v (.c (.p (.sl (.int .i64)) w)))], [(2, [], .box [.p (.int .i64) m.1, .p (.int .i64) m.2.1, .p (.sl (.sl (.int .i64))) m.2.2.1, .p (.int .i64) m.2.2.2.1, .p (.int .u32) m.2.2.2.2])]⟩ : St)) (by kernel_rfl) ⟨trivial, trivial, trivial, trivial⟩ ?_
    refine awl_callk (p := []) (l := [toV1 (.int .i64) m.2.1, toV1 (.sl (.int .i64)) w]) (cl := []) false [.d (.int .i64), .d (.sl (.int .i64))] [1, 2, 20] [2] (fun (ret20v : Int) => (((!decide (ret20v = (0 : Int))) = true → K ((0 : Int), false, ret20v)) ∧ ((!decide (ret20v = (0 : Int))) = false → Loop (σ := Int × Int) (fun s X => VC22_l1 m w K s.1 s.2 X) (m.2.2.2.1, (0 : Int))))) (fun ret20v => [toV1 (.int .i64) ret20v]) (fun ret20v => (⟨46, [(1, [], .v (.c (.p (.sl (.int .i64)) w))), (2, [], .v (.c (.ptr 2 0))), (20, [], .v (.c (.p (.int .i64) ret20v)))], [(2, [], .box [.p (.int .i64) m.1, .p (.int .i64) m.2.1, .p (.sl (.sl (.int .i64))) m.2.2.1, .p (.int .i64) m.2.2.2.1, .p (.int .u32) m.2.2.2.2])]⟩ : St)) (by kernel_rfl) rfl (by kernel_rfl) rfl (by kernel_rfl) Try.call40 (by kernel_rfl) (fun ret20v => by kernel_rfl) (fun e => by cases e) (fun hg => link40 m.2.1 w _ h) (fun hg => noF hg) (fun ret20v h => ?_)
    have h : (((!decide (ret20v = (0 : Int))) = true → K ((0 : Int), false, ret20v)) ∧ ((!decide (ret20v = (0 : Int))) = false → Loop (σ := Int × Int) (fun s X => VC22_l1 m w K s.1 s.2 X) (m.2.2.2.1, (0 : Int)))) := h
    refine awl_runp 1 [1, 2, 8] [2] (ob := (True ∧ True)) (st' := (⟨46, [(1, [], .v (.c (.p (.sl (.int .i64)) w))), (2, [], .v (.c (.ptr 2 0))), (8, [], .v (.c (.p (.int .i64) ret20v)))], [(2, [], .box [.p (.int .i64) m.1, .p (.int .i64) m.2.1, .p (.sl (.sl (.int .i64))) m.2.2.1, .p (.int .i64) m.2.2.2.1, .p (.int .u32) m.2.2.2.2])]⟩ : St)) (by kernel_rfl) ⟨trivial, trivial⟩ ?_
    refine awl_nil ?_
    refine thenQ_n ?_
    refine aw_seq ?_
    refine aw_region ?_
    refine awl_runp 2 [1, 2, 8, 22] [2] (ob := (True ∧ True ∧ True)) (st' := (⟨46, [(1, [], .v (.c (.p (.sl (.int .i64)) w))), (2, [], .v (.c (.ptr 2 0))), (8, [], .v (.c (.p (.int .i64) ret20v))), (22, [], .v (.c (.p .bool (!decide (ret20v = (0 : Int))))))], [(2, [], .box [.p (.int .i64) m.1, .p (.int .i64) m.2.1, .p (.sl (.sl (.int .i64))) m.2.2.1, .p (.int .i64) m.2.2.2.1, .p (.int .u32) m.2.2.2.2])]⟩ : St)) (by kernel_rfl) ⟨trivial, trivial, trivial⟩ ?_
    refine awl_nil ?_
    refine thenQ_n ?_
    refine aw_cond (b := (!decide (ret20v = (0 : Int)))) (by kernel_rfl) (fun hb => ?_) (fun hb => ?_)
    · have h := h.1 hb
      refine aw_seq ?_
      refine aw_region ?_
      refine awl_runp 4 [4, 5, 6] [] (ob := (True ∧ True ∧ True ∧ True ∧ True)) (st' := (⟨46, [(4, [], .v (.c (.p (.int .i64) (0 : Int)))), (5, [], .v (.c (.p .bool false))), (6, [], .v (.c (.p (.int .i64) ret20v)))], []⟩ : St)) (by kernel_rfl) ⟨trivial, trivial, trivial, trivial, trivial⟩ ?_
      refine awl_nil ?_
      refine thenQ_n ?_
      refine aw_ret ?_
      refine thenQ_r ?_
      exact retQ_r (σ := Int × Bool × Int) (R := (fun y => [toV1 (.int .i64) y.1, toV1 .bool y.2.1, toV1 (.int .i64) y.2.2])) (ob := (True ∧ True ∧ True ∧ True)) ((0 : Int), false, ret20v) (by kernel_rfl) ⟨trivial, trivial, trivial, trivial⟩ h
    · have h := h.2 hb
      refine aw_skip ?_
      refine thenQ_n ?_
      refine aw_seq ?_
      refine aw_region ?_
      refine awl_runp 3 [1, 2, 9] [2] (ob := (True ∧ True ∧ True ∧ True)) (st' := (⟨46, [(1, [], .v (.c (.p (.sl (.int .i64)) w))), (2, [], .v (.c (.ptr 2 0))), (9, [], .v (.c (.p (.int .i64) m.2.2.2.1)))], [(2, [], .box [.p (.int .i64) m.1, .p (.int .i64) m.2.1, .p (.sl (.sl (.int .i64))) m.2.2.1, .p (.int .i64) m.2.2.2.1, .p (.int .u32) m.2.2.2.2])]⟩ : St)) (by kernel_rfl) ⟨trivial, trivial, trivial, trivial⟩ ?_
      refine awl_nil ?_
      refine thenQ_n ?_
      refine aw_seq ?_
      refine aw_seq ?_
      refine aw_region ?_
      refine awl_runp 3 [2, 9, 26, 27, 28] [2] (ob := (True ∧ True ∧ True ∧ True)) (st' := (⟨46, [(2, [], .v (.c (.ptr 2 0))), (9, [], .v (.c (.p (.int .i64) m.2.2.2.1))), (26, [], .v (.c (.p (.sl (.int .i64)) w))), (27, [], .v (.c (.p (.int .i64) (w.length : Int)))), (28, [], .v (.c (.p (.int .i64) (0 : Int))))], [(2, [], .box [.p (.int .i64) m.1, .p (.int .i64) m.2.1, .p (.sl (.sl (.int .i64))) m.2.2.1, .p (.int .i64) m.2.2.2.1, .p (.int .u32) m.2.2.2.2])]⟩ : St)) (by kernel_rfl) ⟨trivial, trivial, trivial, trivial⟩ ?_
      refine awl_nil ?_
      refine thenQ_n ?_
      refine withJoin (σ := Int) (fun s => (⟨46, [(2, [], .v (.c (.ptr 2 0))), (9, [], .v (.c (.p (.int .i64) s)))], [(2, [], .box [.p (.int .i64) m.1, .p (.int .i64) m.2.1, .p (.sl (.sl (.int .i64))) m.2.2.1, .p (.int .i64) m.2.2.2.1, .p (.int .u32) m.2.2.2.2])]⟩ : St)) (fun s => VC22_k1 m K s) (fun atv h => ?_) (fun rest1 => ?_)
      · have h : VC22_k1 m K atv := h
        unfold VC22_k1 at h
        refine thenQ_n ?_
        refine aw_seq ?_
        refine aw_region ?_
        refine awl_runp 4 [41, 43, 44] [] (ob := (True ∧ True ∧ True ∧ True ∧ True)) (st' := (⟨46, [(41, [], .v (.c (.p (.int .i64) atv))), (43, [], .v (.c (.p (.int .u32) m.2.2.2.2))), (44, [], .v (.c (.p (.int .i64) atv)))], []⟩ : St)) (by kernel_rfl) ⟨trivial, trivial, trivial, trivial, trivial⟩ ?_
        refine awl_callk (p := []) (l := [toV1 (.int .u32) m.2.2.2.2, toV1 (.int .i64) atv]) (cl := []) false [.d (.int .u32), .d (.int .i64)] [41, 45] [] (fun (ret45v : Bool) => K (atv, ret45v, (0 : Int))) (fun ret45v => [toV1 .bool ret45v]) (fun ret45v => (⟨46, [(41, [], .v (.c (.p (.int .i64) atv))), (45, [], .v (.c (.p .bool ret45v)))], []⟩ : St)) (by kernel_rfl) rfl (by kernel_rfl) rfl (by kernel_rfl) Try.call44 (by kernel_rfl) (fun ret45v => by kernel_rfl) (fun e => by cases e) (fun hg => link44 m.2.2.2.2 atv _ h) (fun hg => noF hg) (fun ret45v h => ?_)
        have h : K (atv, ret45v, (0 : Int)) := h
        refine awl_runp 3 [4, 5, 6] [] (ob := (True ∧ True ∧ True ∧ True)) (st' := (⟨46, [(4, [], .v (.c (.p (.int .i64) atv))), (5, [], .v (.c (.p .bool ret45v))), (6, [], .v (.c (.p (.int .i64) (0 : Int))))], []⟩ : St)) (by kernel_rfl) ⟨trivial, trivial, trivial, trivial⟩ ?_
        refine awl_nil ?_
        refine thenQ_n ?_
        refine aw_ret ?_
        exact retQ_r (σ := Int × Bool × Int) (R := (fun y => [toV1 (.int .i64) y.1, toV1 .bool y.2.1, toV1 (.int .i64) y.2.2])) (ob := (True ∧ True ∧ True ∧ True)) (atv, ret45v, (0 : Int)) (by kernel_rfl) ⟨trivial, trivial, trivial, trivial⟩ h
      · refine aw_block ?_
        refine aw_loop (σ := Int × Int) (fun s => (⟨46, [(2, [], .v (.c (.ptr 2 0))), (9, [], .v (.c (.p (.int .i64) s.1))), (26, [], .v (.c (.p (.sl (.int .i64)) w))), (27, [], .v (.c (.p (.int .i64) (w.length : Int)))), (28, [], .v (.c (.p (.int .i64) s.2)))], [(2, [], .box [.p (.int .i64) m.1, .p (.int .i64) m.2.1, .p (.sl (.sl (.int .i64))) m.2.2.1, .p (.int .i64) m.2.2.2.1, .p (.int .u32) m.2.2.2.2])]⟩ : St)) (fun s X => VC22_l1 m w K s.1 s.2 X) (s0 := (m.2.2.2.1, (0 : Int))) (fun s X1 h => ?_) h
        obtain ⟨atv, v28⟩ := s
        have h : VC22_l1 m w K atv v28 X1 := h
        unfold VC22_l1 at h
        refine aw_seq ?_
        refine aw_region ?_
        refine awl_runp 1 [2, 9, 26, 27, 28, 29] [2] (ob := (True ∧ True)) (st' := (⟨46, [(2, [], .v (.c (.ptr 2 0))), (9, [], .v (.c (.p (.int .i64) atv))), (26, [], .v (.c (.p (.sl (.int .i64)) w))), (27, [], .v (.c (.p (.int .i64) (w.length : Int)))), (28, [], .v (.c (.p (.int .i64) v28))), (29, [], .v (.c (.p .bool (decide (v28 < (w.length : Int))))))], [(2, [], .box [.p (.int .i64) m.1, .p (.int .i64) m.2.1, .p (.sl (.sl (.int .i64))) m.2.2.1, .p (.int .i64) m.2.2.2.1, .p (.int .u32) m.2.2.2.2])]⟩ : St)) (by kernel_rfl) ⟨trivial, trivial⟩ ?_
        refine awl_nil ?_
        refine thenQ_n ?_
        refine aw_seq ?_
        refine aw_cond (b := (decide (v28 < (w.length : Int)))) (by kernel_rfl) (fun hb => ?_) (fun hb => ?_)
        · have h := h.1 hb
          refine aw_skip ?_
          refine thenQ_n ?_
          refine aw_seq ?_
          refine aw_block ?_
          refine aw_seq ?_
          refine aw_region ?_
          obtain ⟨o1, h⟩ := h
          refine awl_runp 3 [2, 9, 11, 26, 27, 28] [2] (ob := (inIdx v28 w.length ∧ True ∧ True ∧ True)) (st' := (⟨46, [(2, [], .v (.c (.ptr 2 0))), (9, [], .v (.c (.p (.int .i64) atv))), (11, [], .v (.c (.p (.int .i64) (w.getD (v28).toNat (0 : Int))))), (26, [], .v (.c (.p (.sl (.int .i64)) w))), (27, [], .v (.c (.p (.int .i64) (w.length : Int)))), (28, [], .v (.c (.p (.int .i64) v28)))], [(2, [], .box [.p (.int .i64) m.1, .p (.int .i64) m.2.1, .p (.sl (.sl (.int .i64))) m.2.2.1, .p (.int .i64) m.2.2.2.1, .p (.int .u32) m.2.2.2.2])]⟩ : St)) (by kernel_rfl) ⟨o1, trivial, trivial, trivial⟩ ?_
          refine awl_nil ?_
          refine thenQ_n ?_
          refine aw_region ?_
          obtain ⟨o1, o2, h⟩ := h
          refine awl_runp 9 [2, 9, 26, 27, 28] [2] (ob := (True ∧ True ∧ True ∧ inIdx atv m.2.2.1.length ∧ True ∧ True ∧ inIdx (w.getD (v28).toNat (0 : Int)) (m.2.2.1.getD (atv).toNat ([] : (List Int))).length ∧ True ∧ True ∧ True)) (st' := (⟨46, [(2, [], .v (.c (.ptr 2 0))), (9, [], .v (.c (.p (.int .i64) ((m.2.2.1.getD (atv).toNat ([] : (List Int))).getD ((w.getD (v28).toNat (0 : Int))).toNat (0 : Int))))), (26, [], .v (.c (.p (.sl (.int .i64)) w))), (27, [], .v (.c (.p (.int .i64) (w.length : Int)))), (28, [], .v (.c (.p (.int .i64) v28)))], [(2, [], .box [.p (.int .i64) m.1, .p (.int .i64) m.2.1, .p (.sl (.sl (.int .i64))) m.2.2.1, .p (.int .i64) m.2.2.2.1, .p (.int .u32) m.2.2.2.2])]⟩ : St)) (by kernel_rfl) ⟨trivial, trivial, trivial, o1, trivial, trivial, o2, trivial, trivial, trivial⟩ ?_
          refine awl_nil ?_
          refine blockQ_n ?_
          refine thenQ_n ?_
          refine aw_region ?_
          obtain ⟨o1, h⟩ := h
          refine awl_runp 2 [2, 9, 26, 27, 28] [2] (ob := (InR (v28 + (1 : Int)) ∧ True ∧ True)) (st' := (⟨46, [(2, [], .v (.c (.ptr 2 0))), (9, [], .v (.c (.p (.int .i64) ((m.2.2.1.getD (atv).toNat ([] : (List Int))).getD ((w.getD (v28).toNat (0 : Int))).toNat (0 : Int))))), (26, [], .v (.c (.p (.sl (.int .i64)) w))), (27, [], .v (.c (.p (.int .i64) (w.length : Int)))), (28, [], .v (.c (.p (.int .i64) (v28 + (1 : Int)))))], [(2, [], .box [.p (.int .i64) m.1, .p (.int .i64) m.2.1, .p (.sl (.sl (.int .i64))) m.2.2.1, .p (.int .i64) m.2.2.2.1, .p (.int .u32) m.2.2.2.2])]⟩ : St)) (by kernel_rfl) ⟨o1, trivial, trivial⟩ ?_
          refine awl_nil ?_
          exact thenQ_n ⟨(((m.2.2.1.getD (atv).toNat ([] : (List Int))).getD ((w.getD (v28).toNat (0 : Int))).toNat (0 : Int)), (v28 + (1 : Int))), rfl, h⟩
        · have h := h.2 hb
          refine aw_conv [.prune [2, 9] [2]] (st' := (⟨46, [(2, [], .v (.c (.ptr 2 0))), (9, [], .v (.c (.p (.int .i64) atv)))], [(2, [], .box [.p (.int .i64) m.1, .p (.int .i64) m.2.1, .p (.sl (.sl (.int .i64))) m.2.2.1, .p (.int .i64) m.2.2.2.1, .p (.int .u32) m.2.2.2.2])]⟩ : St)) (by kernel_rfl) ?_
          refine aw_exit ?_
          refine thenQ_x ?_
          refine thenQ_x ?_
          refine blockQ_hit ?_
          exact rest1 atv h

-- coppicer/coppicerkeep.TurnerBefore
def VC5 (tv : (Int × (Int × (Int × ((List (List Int)) × ((List (List (List Int))) × Int)))))) (m : (Int × (Int × ((List (List Int)) × (Int × Int))))) (w : (List Int)) (K : Bool → Prop) : Prop :=
  VC20 tv m (fun (ret20v : (Int × (Int × ((List (List Int)) × (Int × Int)))) × Int) => VC14 tv w (fun (ret26v : (List Int) × Int) => VC15 tv (fun (ret30v : Bool) => gcall (α := Int) (!(!ret30v)) (VC21 m) (0 : Int) (fun (ret34v : Int) => gcall (α := Int) (!((!ret30v) || (!decide (ret34v = (0 : Int))))) (VC16 tv.2.1 w) (0 : Int) (fun (ret41v : Int) => (((((!ret30v) || (!decide (ret34v = (0 : Int)))) || (!decide (ret41v = (0 : Int)))) = true → K ((!decide (ret20v.2 = (0 : Int))) || (!decide (ret26v.2 = (0 : Int))))) ∧ ((((!ret30v) || (!decide (ret34v = (0 : Int)))) || (!decide (ret41v = (0 : Int)))) = false → (((!decide (ret26v.2 = (0 : Int))) = true → K false) ∧ ((!decide (ret26v.2 = (0 : Int))) = false → (((!decide (ret20v.2 = (0 : Int))) = true → K (decide (ret20v.1.1 = (0 : Int)))) ∧ ((!decide (ret20v.2 = (0 : Int))) = false → VC22 ret20v.1 w (fun (ret60v : Int × Bool × Int) => VC22 m ret26v.1 (fun (ret67v : Int × Bool × Int) => K ((decide (ret60v.2.2 = (0 : Int))) && (((decide ((12 : Int) < (ret26v.1.length : Int))) && (!decide (ret67v.2.2 = (0 : Int)))) || ((decide (ret67v.2.2 = (0 : Int))) && (ret60v.2.1 == ret67v.2.1)))))))))))))))))

set_option maxHeartbeats 4000000 in
theorem link5 (tv : (Int × (Int × (Int × ((List (List Int)) × ((List (List (List Int))) × Int)))))) (m : (Int × (Int × ((List (List Int)) × (Int × Int))))) (w : (List Int)) (K : Bool → Prop) (h : VC5 tv m w K) : ACalls Try.prog 5 [toV1 (.pr (.int .i64) (.pr (.int .i64) (.pr (.int .i64) (.pr (.sl (.sl (.int .i64))) (.pr (.sl (.sl (.sl (.int .i64)))) (.int .i64)))))) tv, toV1 (.pr (.int .i64) (.pr (.int .i64) (.pr (.sl (.sl (.int .i64))) (.pr (.int .i64) (.int .u32))))) m, toV1 (.sl (.int .i64)) w] (fun res => ∃ y, res = (fun y => [toV1 .bool y]) y ∧ K y) := by
  refine acalls_of_aw [.bool] [.t 6] Try.func5 rfl rfl rfl ?_
  unfold VC5 at h
  refine aw_seq ?_
  refine aw_region ?_
  refine awl_runp 3 [2, 3, 4] [3, 4] (ob := (True ∧ True ∧ True ∧ True)) (st' := (⟨91, [(2, [], .v (.c (.p (.sl (.int .i64)) w))), (3, [], .v (.c (.ptr 3 0))), (4, [], .v (.c (.ptr 4 0)))], [(3, [], .box [.p (.int .i64) tv.1, .p (.int .i64) tv.2.1, .p (.int .i64) tv.2.2.1, .p (.sl (.sl (.int .i64))) tv.2.2.2.1, .p (.sl (.sl (.sl (.int .i64)))) tv.2.2.2.2.1, .p (.int .i64) tv.2.2.2.2.2]), (4, [], .box [.p (.int .i64) m.1, .p (.int .i64) m.2.1, .p (.sl (.sl (.int .i64))) m.2.2.1, .p (.int .i64) m.2.2.2.1, .p (.int .u32) m.2.2.2.2])]⟩ : St)) (by kernel_rfl) ⟨trivial, trivial, trivial, trivial⟩ ?_
  refine awl_nil ?_
  refine thenQ_n ?_
  refine aw_seq ?_
  refine aw_region ?_
  refine awl_runp 2 [2, 3, 4, 18, 19] [3, 4] (ob := (True ∧ True ∧ True)) (st' := (⟨91, [(2, [], .v (.c (.p (.sl (.int .i64)) w))), (3, [], .v (.c (.ptr 3 0))), (4, [], .v (.c (.ptr 4 0))), (18, [], .v (.agg [.p (.int .i64) tv.1, .p (.int .i64) tv.2.1, .p (.int .i64) tv.2.2.1, .p (.sl (.sl (.int .i64))) tv.2.2.2.1, .p (.sl (.sl (.sl (.int .i64)))) tv.2.2.2.2.1, .p (.int .i64) tv.2.2.2.2.2])), (19, [], .v (.agg [.p (.int .i64) m.1, .p (.int .i64) m.2.1, .p (.sl (.sl (.int .i64))) m.2.2.1, .p (.int .i64) m.2.2.2.1, .p (.int .u32) m.2.2.2.2]))], [(3, [], .box [.p (.int .i64) tv.1, .p (.int .i64) tv.2.1, .p (.int .i64) tv.2.2.1, .p (.sl (.sl (.int .i64))) tv.2.2.2.1, .p (.sl (.sl (.sl (.int .i64)))) tv.2.2.2.2.1, .p (.int .i64) tv.2.2.2.2.2]), (4, [], .box [.p (.int .i64) m.1, .p (.int .i64) m.2.1, .p (.sl (.sl (.int .i64))) m.2.2.1, .p (.int .i64) m.2.2.2.1, .p (.int .u32) m.2.2.2.2])]⟩ : St)) (by kernel_rfl) ⟨trivial, trivial, trivial⟩ ?_
  refine awl_callk (p := []) (l := [toV1 (.pr (.int .i64) (.pr (.int .i64) (.pr (.int .i64) (.pr (.sl (.sl (.int .i64))) (.pr (.sl (.sl (.sl (.int .i64)))) (.int .i64)))))) tv, toV1 (.pr (.int .i64) (.pr (.int .i64) (.pr (.sl (.sl (.int .i64))) (.pr (.int .i64) (.int .u32))))) m]) (cl := []) false [.d (.pr (.int .i64) (.pr (.int .i64) (.pr (.int .i64) (.pr (.sl (.sl (.int .i64))) (.pr (.sl (.sl (.sl (.int .i64)))) (.int .i64)))))), .d (.pr (.int .i64) (.pr (.int .i64) (.pr (.sl (.sl (.int .i64))) (.pr (.int .i64) (.int .u32)))))] [2, 3, 4, 20] [3, 4] (fun (ret20v : (Int × (Int × ((List (List Int)) × (Int × Int)))) × Int) => VC14 tv w (fun (ret26v : (List Int) × Int) => VC15 tv (fun (ret30v : Bool) => gcall (α := Int) (!(!ret30v)) (VC21 m) (0 : Int) (fun (ret34v : Int) => gcall (α := Int) (!((!ret30v) || (!decide (ret34v = (0 : Int))))) (VC16 tv.2.1 w) (0 : Int) (fun (ret41v : Int) => (((((!ret30v) || (!decide (ret34v = (0 : Int)))) || (!decide (ret41v = (0 : Int)))) = true → K ((!decide (ret20v.2 = (0 : Int))) || (!decide (ret26v.2 = (0 : Int))))) ∧ ((((!ret30v) || (!decide (ret34v = (0 : Int)))) || (!decide (ret41v = (0 : Int)))) = false → (((!decide (ret26v.2 = (0 : Int))) = true → K false) ∧ ((!decide (ret26v.2 = (0 : Int))) = false → (((!decide (ret20v.2 = (0 : Int))) = true → K (decide (ret20v.1.1 = (0 : Int)))) ∧ ((!decide (ret20v.2 = (0 : Int))) = false → VC22 ret20v.1 w (fun (ret60v : Int × Bool × Int) => VC22 m ret26v.1 (fun (ret67v : Int × Bool × Int) => K ((decide (ret60v.2.2 = (0 : Int))) && (((decide ((12 : Int) < (ret26v.1.length : Int))) && (!decide (ret67v.2.2 = (0 : Int)))) || ((decide (ret67v.2.2 = (0 : Int))) && (ret60v.2.1 == ret67v.2.1))))))))))))))))) (fun ret20v => [toV1 (.pr (.int .i64) (.pr (.int .i64) (.pr (.sl (.sl (.int .i64))) (.pr (.int .i64) (.int .u32))))) ret20v.1, toV1 (.int .i64) ret20v.2]) (fun ret20v => (⟨91, [(2, [], .v (.c (.p (.sl (.int .i64)) w))), (3, [], .v (.c (.ptr 3 0))), (4, [], .v (.c (.ptr 4 0))), (20, [], .tup [.agg [.p (.int .i64) ret20v.1.1, .p (.int .i64) ret20v.1.2.1, .p (.sl (.sl (.int .i64))) ret20v.1.2.2.1, .p (.int .i64) ret20v.1.2.2.2.1, .p (.int .u32) ret20v.1.2.2.2.2], .c (.p (.int .i64) ret20v.2)])], [(3, [], .box [.p (.int .i64) tv.1, .p (.int .i64) tv.2.1, .p (.int .i64) tv.2.2.1, .p (.sl (.sl (.int .i64))) tv.2.2.2.1, .p (.sl (.sl (.sl (.int .i64)))) tv.2.2.2.2.1, .p (.int .i64) tv.2.2.2.2.2]), (4, [], .box [.p (.int .i64) m.1, .p (.int .i64) m.2.1, .p (.sl (.sl (.int .i64))) m.2.2.1, .p (.int .i64) m.2.2.2.1, .p (.int .u32) m.2.2.2.2])]⟩ : St)) (by kernel_rfl) rfl (by kernel_rfl) rfl (by kernel_rfl) Try.call20 (by kernel_rfl) (fun ret20v => by kernel_rfl) (fun e => by cases e) (fun hg => link20 tv m _ h) (fun hg => noF hg) (fun ret20v h => ?_)
  have h : VC14 tv w (fun (ret26v : (List Int) × Int) => VC15 tv (fun (ret30v : Bool) => gcall (α := Int) (!(!ret30v)) (VC21 m) (0 : Int) (fun (ret34v : Int) => gcall (α := Int) (!((!ret30v) || (!decide (ret34v = (0 : Int))))) (VC16 tv.2.1 w) (0 : Int) (fun (ret41v : Int) => (((((!ret30v) || (!decide (ret34v = (0 : Int)))) || (!decide (ret41v = (0 : Int)))) = true → K ((!decide (ret20v.2 = (0 : Int))) || (!decide (ret26v.2 = (0 : Int))))) ∧ ((((!ret30v) || (!decide (ret34v = (0 : Int)))) || (!decide (ret41v = (0 : Int)))) = false → (((!decide (ret26v.2 = (0 : Int))) = true → K false) ∧ ((!decide (ret26v.2 = (0 : Int))) = false → (((!decide (ret20v.2 = (0 : Int))) = true → K (decide (ret20v.1.1 = (0 : Int)))) ∧ ((!decide (ret20v.2 = (0 : Int))) = false → VC22 ret20v.1 w (fun (ret60v : Int × Bool × Int) => VC22 m ret26v.1 (fun (ret67v : Int × Bool × Int) => K ((decide (ret60v.2.2 = (0 : Int))) && (((decide ((12 : Int) < (ret26v.1.length : Int))) && (!decide (ret67v.2.2 = (0 : Int)))) || ((decide (ret67v.2.2 = (0 : Int))) && (ret60v.2.1 == ret67v.2.1)))))))))))))))) := h
  refine awl_runp 6 [2, 3, 4, 7, 8] [3, 4, 7] (ob := (True ∧ True ∧ True ∧ True ∧ True ∧ True ∧ True)) (st' := (⟨91, [(2, [], .v (.c (.p (.sl (.int .i64)) w))), (3, [], .v (.c (.ptr 3 0))), (4, [], .v (.c (.ptr 4 0))), (7, [], .v (.c (.ptr 7 0))), (8, [], .v (.c (.p (.int .i64) ret20v.2)))], [(3, [], .box [.p (.int .i64) tv.1, .p (.int .i64) tv.2.1, .p (.int .i64) tv.2.2.1, .p (.sl (.sl (.int .i64))) tv.2.2.2.1, .p (.sl (.sl (.sl (.int .i64)))) tv.2.2.2.2.1, .p (.int .i64) tv.2.2.2.2.2]), (4, [], .box [.p (.int .i64) m.1, .p (.int .i64) m.2.1, .p (.sl (.sl (.int .i64))) m.2.2.1, .p (.int .i64) m.2.2.2.1, .p (.int .u32) m.2.2.2.2]), (7, [], .box [.p (.int .i64) ret20v.1.1, .p (.int .i64) ret20v.1.2.1, .p (.sl (.sl (.int .i64))) ret20v.1.2.2.1, .p (.int .i64) ret20v.1.2.2.2.1, .p (.int .u32) ret20v.1.2.2.2.2])]⟩ : St)) (by kernel_rfl) ⟨trivial, trivial, trivial, trivial, trivial, trivial, trivial⟩ ?_
  refine awl_nil ?_
  refine thenQ_n ?_
  refine aw_seq ?_
  refine aw_region ?_
  refine awl_runp 2 [2, 3, 4, 7, 8, 24, 25] [3, 4, 7] (ob := (True ∧ True ∧ True)) (st' := (⟨91, [(2, [], .v (.c (.p (.sl (.int .i64)) w))), (3, [], .v (.c (.ptr 3 0))), (4, [], .v (.c (.ptr 4 0))), (7, [], .v (.c (.ptr 7 0))), (8, [], .v (.c (.p (.int .i64) ret20v.2))), (24, [], .v (.agg [.p (.int .i64) tv.1, .p (.int .i64) tv.2.1, .p (.int .i64) tv.2.2.1, .p (.sl (.sl (.int .i64))) tv.2.2.2.1, .p (.sl (.sl (.sl (.int .i64)))) tv.2.2.2.2.1, .p (.int .i64) tv.2.2.2.2.2])), (25, [], .v (.c (.p (.sl (.int .i64)) w)))], [(3, [], .box [.p (.int .i64) tv.1, .p (.int .i64) tv.2.1, .p (.int .i64) tv.2.2.1, .p (.sl (.sl (.int .i64))) tv.2.2.2.1, .p (.sl (.sl (.sl (.int .i64)))) tv.2.2.2.2.1, .p (.int .i64) tv.2.2.2.2.2]), (4, [], .box [.p (.int .i64) m.1, .p (.int .i64) m.2.1, .p (.sl (.sl (.int .i64))) m.2.2.1, .p (.int .i64) m.2.2.2.1, .p (.int .u32) m.2.2.2.2]), (7, [], .box [.p (.int .i64) ret20v.1.1, .p (.int .i64) ret20v.1.2.1, .p (.sl (.sl (.int .i64))) ret20v.1.2.2.1, .p (.int .i64) ret20v.1.2.2.2.1, .p (.int .u32) ret20v.1.2.2.2.2])]⟩ : St)) (by kernel_rfl) ⟨trivial, trivial, trivial⟩ ?_
  refine awl_callk (p := []) (l := [toV1 (.pr (.int .i64) (.pr (.int .i64) (.pr (.int .i64) (.pr (.sl (.sl (.int .i64))) (.pr (.sl (.sl (.sl (.int .i64)))) (.int .i64)))))) tv, toV1 (.sl (.int .i64)) w]) (cl := []) false [.d (.pr (.int .i64) (.pr (.int .i64) (.pr (.int .i64) (.pr (.sl (.sl (.int .i64))) (.pr (.sl (.sl (.sl (.int .i64)))) (.int .i64)))))), .d (.sl (.int .i64))] [2, 3, 4, 7, 8, 26] [3, 4, 7] (fun (ret26v : (List Int) × Int) => VC15 tv (fun (ret30v : Bool) => gcall (α := Int) (!(!ret30v)) (VC21 m) (0 : Int) (fun (ret34v : Int) => gcall (α := Int) (!((!ret30v) || (!decide (ret34v = (0 : Int))))) (VC16 tv.2.1 w) (0 : Int) (fun (ret41v : Int) => (((((!ret30v) || (!decide (ret34v = (0 : Int)))) || (!decide (ret41v = (0 : Int)))) = true → K ((!decide (ret20v.2 = (0 : Int))) || (!decide (ret26v.2 = (0 : Int))))) ∧ ((((!ret30v) || (!decide (ret34v = (0 : Int)))) || (!decide (ret41v = (0 : Int)))) = false → (((!decide (ret26v.2 = (0 : Int))) = true → K false) ∧ ((!decide (ret26v.2 = (0 : Int))) = false → (((!decide (ret20v.2 = (0 : Int))) = true → K (decide (ret20v.1.1 = (0 : Int)))) ∧ ((!decide (ret20v.2 = (0 : Int))) = false → VC22 ret20v.1 w (fun (ret60v : Int × Bool × Int) => VC22 m ret26v.1 (fun (ret67v : Int × Bool × Int) => K ((decide (ret60v.2.2 = (0 : Int))) && (((decide ((12 : Int) < (ret26v.1.length : Int))) && (!decide (ret67v.2.2 = (0 : Int)))) || ((decide (ret67v.2.2 = (0 : Int))) && (ret60v.2.1 == ret67v.2.1)))))))))))))))) (fun ret26v => [toV1 (.sl (.int .i64)) ret26v.1, toV1 (.int .i64) ret26v.2]) (fun ret26v => (⟨91, [(2, [], .v (.c (.p (.sl (.int .i64)) w))), (3, [], .v (.c (.ptr 3 0))), (4, [], .v (.c (.ptr 4 0))), (7, [], .v (.c (.ptr 7 0))), (8, [], .v (.c (.p (.int .i64) ret20v.2))), (26, [], .tup [.c (.p (.sl (.int .i64)) ret26v.1), .c (.p (.int .i64) ret26v.2)])], [(3, [], .box [.p (.int .i64) tv.1, .p (.int .i64) tv.2.1, .p (.int .i64) tv.2.2.1, .p (.sl (.sl (.int .i64))) tv.2.2.2.1, .p (.sl (.sl (.sl (.int .i64)))) tv.2.2.2.2.1, .p (.int .i64) tv.2.2.2.2.2]), (4, [], .box [.p (.int .i64) m.1, .p (.int .i64) m.2.1, .p (.sl (.sl (.int .i64))) m.2.2.1, .p (.int .i64) m.2.2.2.1, .p (.int .u32) m.2.2.2.2]), (7, [], .box [.p (.int .i64) ret20v.1.1, .p (.int .i64) ret20v.1.2.1, .p (.sl (.sl (.int .i64))) ret20v.1.2.2.1, .p (.int .i64) ret20v.1.2.2.2.1, .p (.int .u32) ret20v.1.2.2.2.2])]⟩ : St)) (by kernel_rfl) rfl (by kernel_rfl) rfl (by kernel_rfl) Try.call14 (by kernel_rfl) (fun ret26v => by kernel_rfl) (fun e => by cases e) (fun hg => link14 tv w _ h) (fun hg => noF hg) (fun ret26v h => ?_)
  have h : VC15 tv (fun (ret30v : Bool) => gcall (α := Int) (!(!ret30v)) (VC21 m) (0 : Int) (fun (ret34v : Int) => gcall (α := Int) (!((!ret30v) || (!decide (ret34v = (0 : Int))))) (VC16 tv.2.1 w) (0 : Int) (fun (ret41v : Int) => (((((!ret30v) || (!decide (ret34v = (0 : Int)))) || (!decide (ret41v = (0 : Int)))) = true → K ((!decide (ret20v.2 = (0 : Int))) || (!decide (ret26v.2 = (0 : Int))))) ∧ ((((!ret30v) || (!decide (ret34v = (0 : Int)))) || (!decide (ret41v = (0 : Int)))) = false → (((!decide (ret26v.2 = (0 : Int))) = true → K false) ∧ ((!decide (ret26v.2 = (0 : Int))) = false → (((!decide (ret20v.2 = (0 : Int))) = true → K (decide (ret20v.1.1 = (0 : Int)))) ∧ ((!decide (ret20v.2 = (0 : Int))) = false → VC22 ret20v.1 w (fun (ret60v : Int × Bool × Int) => VC22 m ret26v.1 (fun (ret67v : Int × Bool × Int) => K ((decide (ret60v.2.2 = (0 : Int))) && (((decide ((12 : Int) < (ret26v.1.length : Int))) && (!decide (ret67v.2.2 = (0 : Int)))) || ((decide (ret67v.2.2 = (0 : Int))) && (ret60v.2.1 == ret67v.2.1))))))))))))))) := h
  refine awl_runp 5 [2, 3, 4, 7, 8, 9, 10] [3, 4, 7] (ob := (True ∧ True ∧ True ∧ True ∧ True ∧ True)) (st' := (⟨91, [(2, [], .v (.c (.p (.sl (.int .i64)) w))), (3, [], .v (.c (.ptr 3 0))), (4, [], .v (.c (.ptr 4 0))), (7, [], .v (.c (.ptr 7 0))), (8, [], .v (.c (.p (.int .i64) ret20v.2))), (9, [], .v (.c (.p (.sl (.int .i64)) ret26v.1))), (10, [], .v (.c (.p (.int .i64) ret26v.2)))], [(3, [], .box [.p (.int .i64) tv.1, .p (.int .i64) tv.2.1, .p (.int .i64) tv.2.2.1, .p (.sl (.sl (.int .i64))) tv.2.2.2.1, .p (.sl (.sl (.sl (.int .i64)))) tv.2.2.2.2.1, .p (.int .i64) tv.2.2.2.2.2]), (4, [], .box [.p (.int .i64) m.1, .p (.int .i64) m.2.1, .p (.sl (.sl (.int .i64))) m.2.2.1, .p (.int .i64) m.2.2.2.1, .p (.int .u32) m.2.2.2.2]), (7, [], .box [.p (.int .i64) ret20v.1.1, .p (.int .i64) ret20v.1.2.1, .p (.sl (.sl (.int .i64))) ret20v.1.2.2.1, .p (.int .i64) ret20v.1.2.2.2.1, .p (.int .u32) ret20v.1.2.2.2.2])]⟩ : St)) (by kernel_rfl) ⟨trivial, trivial, trivial, trivial, trivial, trivial⟩ ?_
  refine awl_nil ?_
  refine thenQ_n ?_
  refine aw_seq ?_
  refine aw_seq ?_
  refine aw_region ?_
  refine awl_runp 1 [2, 3, 4, 7, 8, 9, 10, 29] [3, 4, 7] (ob := (True ∧ True)) (st' := (⟨91, [(2, [], .v (.c (.p (.sl (.int .i64)) w))), (3, [], .v (.c (.ptr 3 0))), (4, [], .v (.c (.ptr 4 0))), (7, [], .v (.c (.ptr 7 0))), (8, [], .v (.c (.p (.int .i64) ret20v.2))), (9, [], .v (.c (.p (.sl (.int .i64)) ret26v.1))), (10, [], .v (.c (.p (.int .i64) ret26v.2))), (29, [], .v (.agg [.p (.int .i64) tv.1, .p (.int .i64) tv.2.1, .p (.int .i64) tv.2.2.1, .p (.sl (.sl (.int .i64))) tv.2.2.2.1, .p (.sl (.sl (.sl (.int .i64)))) tv.2.2.2.2.1, .p (.int .i64) tv.2.2.2.2.2]))], [(3, [], .box [.p (.int .i64) tv.1, .p (.int .i64) tv.2.1, .p (.int .i64) tv.2.2.1, .p (.sl (.sl (.int .i64))) tv.2.2.2.1, .p (.sl (.sl (.sl (.int .i64)))) tv.2.2.2.2.1, .p (.int .i64) tv.2.2.2.2.2]), (4, [], .box [.p (.int .i64) m.1, .p (.int .i64) m.2.1, .p (.sl (.sl (.int .i64))) m.2.2.1, .p (.int .i64) m.2.2.2.1, .p (.int .u32) m.2.2.2.2]), (7, [], .box [.p (.int .i64) ret20v.1.1, .p (.int .i64) ret20v.1.2.1, .p (.sl (.sl (.int .i64))) ret20v.1.2.2.1, .p (.int .i64) ret20v.1.2.2.2.1, .p (.int .u32) ret20v.1.2.2.2.2])]⟩ : St)) (by kernel_rfl) ⟨trivial, trivial⟩ ?_
  refine awl_callk (p := []) (l := [toV1 (.pr (.int .i64) (.pr (.int .i64) (.pr (.int .i64) (.pr (.sl (.sl (.int .i64))) (.pr (.sl (.sl (.sl (.int .i64)))) (.int .i64)))))) tv]) (cl := []) false [.d (.pr (.int .i64) (.pr (.int .i64) (.pr (.int .i64) (.pr (.sl (.sl (.int .i64))) (.pr (.sl (.sl (.sl (.int .i64)))) (.int .i64))))))] [2, 3, 4, 7, 8, 9, 10, 30] [3, 4, 7] (fun (ret30v : Bool) => gcall (α := Int) (!(!ret30v)) (VC21 m) (0 : Int) (fun (ret34v : Int) => gcall (α := Int) (!((!ret30v) || (!decide (ret34v = (0 : Int))))) (VC16 tv.2.1 w) (0 : Int) (fun (ret41v : Int) => (((((!ret30v) || (!decide (ret34v = (0 : Int)))) || (!decide (ret41v = (0 : Int)))) = true → K ((!decide (ret20v.2 = (0 : Int))) || (!decide (ret26v.2 = (0 : Int))))) ∧ ((((!ret30v) || (!decide (ret34v = (0 : Int)))) || (!decide (ret41v = (0 : Int)))) = false → (((!decide (ret26v.2 = (0 : Int))) = true → K false) ∧ ((!decide (ret26v.2 = (0 : Int))) = false → (((!decide (ret20v.2 = (0 : Int))) = true → K (decide (ret20v.1.1 = (0 : Int)))) ∧ ((!decide (ret20v.2 = (0 : Int))) = false → VC22 ret20v.1 w (fun (ret60v : Int × Bool × Int) => VC22 m ret26v.1 (fun (ret67v : Int × Bool × Int) => K ((decide (ret60v.2.2 = (0 : Int))) && (((decide ((12 : Int) < (ret26v.1.length : Int))) && (!decide (ret67v.2.2 = (0 : Int)))) || ((decide (ret67v.2.2 = (0 : Int))) && (ret60v.2.1 == ret67v.2.1))))))))))))))) (fun ret30v => [toV1 .bool ret30v]) (fun ret30v => (⟨91, [(2, [], .v (.c (.p (.sl (.int .i64)) w))), (3, [], .v (.c (.ptr 3 0))), (4, [], .v (.c (.ptr 4 0))), (7, [], .v (.c (.ptr 7 0))), (8, [], .v (.c (.p (.int .i64) ret20v.2))), (9, [], .v (.c (.p (.sl (.int .i64)) ret26v.1))), (10, [], .v (.c (.p (.int .i64) ret26v.2))), (30, [], .v (.c (.p .bool ret30v)))], [(3, [], .box [.p (.int .i64) tv.1, .p (.int .i64) tv.2.1, .p (.int .i64) tv.2.2.1, .p (.sl (.sl (.int .i64))) tv.2.2.2.1, .p (.sl (.sl (.sl (.int .i64)))) tv.2.2.2.2.1, .p (.int .i64) tv.2.2.2.2.2]), (4, [], .box [.p (.int .i64) m.1, .p (.int .i64) m.2.1, .p (.sl (.sl (.int .i64))) m.2.2.1, .p (.int .i64) m.2.2.2.1, .p (.int .u32) m.2.2.2.2]), (7, [], .box [.p (.int .i64) ret20v.1.1, .p (.int .i64) ret20v.1.2.1, .p (.sl (.sl (.int .i64))) ret20v.1.2.2.1, .p (.int .i64) ret20v.1.2.2.2.1, .p (.int .u32) ret20v.1.2.2.2.2])]⟩ : St)) (by kernel_rfl) rfl (by kernel_rfl) rfl (by kernel_rfl) Try.call15 (by kernel_rfl) (fun ret30v => by kernel_rfl) (fun e => by cases e) (fun hg => link15 tv _ h) (fun hg => noF hg) (fun ret30v h => ?_)
  have h : gcall (α := Int) (!(!ret30v)) (VC21 m) (0 : Int) (fun (ret34v : Int) => gcall (α := Int) (!((!ret30v) || (!decide (ret34v = (0 : Int))))) (VC16 tv.2.1 w) (0 : Int) (fun (ret41v : Int) => (((((!ret30v) || (!decide (ret34v = (0 : Int)))) || (!decide (ret41v = (0 : Int)))) = true → K ((!decide (ret20v.2 = (0 : Int))) || (!decide (ret26v.2 = (0 : Int))))) ∧ ((((!ret30v) || (!decide (ret34v = (0 : Int)))) || (!decide (ret41v = (0 : Int)))) = false → (((!decide (ret26v.2 = (0 : Int))) = true → K false) ∧ ((!decide (ret26v.2 = (0 : Int))) = false → (((!decide (ret20v.2 = (0 : Int))) = true → K (decide (ret20v.1.1 = (0 : Int)))) ∧ ((!decide (ret20v.2 = (0 : Int))) = false → VC22 ret20v.1 w (fun (ret60v : Int × Bool × Int) => VC22 m ret26v.1 (fun (ret67v : Int × Bool × Int) => K ((decide (ret60v.2.2 = (0 : Int))) && (((decide ((12 : Int) < (ret26v.1.length : Int))) && (!decide (ret67v.2.2 = (0 : Int)))) || ((decide (ret67v.2.2 = (0 : Int))) && (ret60v.2.1 == ret67v.2.1)))))))))))))) := h
  refine awl_runp 3 [2, 3, 4, 7, 8, 9, 10, 32, 33] [3, 4, 7] (ob := (True ∧ True ∧ ((!ret30v) = false → True) ∧ True)) (st' := (⟨91, [(2, [], .v (.c (.p (.sl (.int .i64)) w))), (3, [], .v (.c (.ptr 3 0))), (4, [], .v (.c (.ptr 4 0))), (7, [], .v (.c (.ptr 7 0))), (8, [], .v (.c (.p (.int .i64) ret20v.2))), (9, [], .v (.c (.p (.sl (.int .i64)) ret26v.1))), (10, [], .v (.c (.p (.int .i64) ret26v.2))), (32, [], .v (.c (.p .bool (!ret30v)))), (33, [(32, false)], .v (.agg [.p (.int .i64) m.1, .p (.int .i64) m.2.1, .p (.sl (.sl (.int .i64))) m.2.2.1, .p (.int .i64) m.2.2.2.1, .p (.int .u32) m.2.2.2.2]))], [(3, [], .box [.p (.int .i64) tv.1, .p (.int .i64) tv.2.1, .p (.int .i64) tv.2.2.1, .p (.sl (.sl (.int .i64))) tv.2.2.2.1, .p (.sl (.sl (.sl (.int .i64)))) tv.2.2.2.2.1, .p (.int .i64) tv.2.2.2.2.2]), (4, [], .box [.p (.int .i64) m.1, .p (.int .i64) m.2.1, .p (.sl (.sl (.int .i64))) m.2.2.1, .p (.int .i64) m.2.2.2.1, .p (.int .u32) m.2.2.2.2]), (7, [], .box [.p (.int .i64) ret20v.1.1, .p (.int .i64) ret20v.1.2.1, .p (.sl (.sl (.int .i64))) ret20v.1.2.2.1, .p (.int .i64) ret20v.1.2.2.2.1, .p (.int .u32) ret20v.1.2.2.2.2])]⟩ : St)) (by kernel_rfl) ⟨trivial, trivial, (fun _ => trivial), trivial⟩ ?_
  refine awl_callk (p := [(32, false)]) (l := [toV1 (.pr (.int .i64) (.pr (.int .i64) (.pr (.sl (.sl (.int .i64))) (.pr (.int .i64) (.int .u32))))) m]) (cl := []) false [.d (.pr (.int .i64) (.pr (.int .i64) (.pr (.sl (.sl (.int .i64))) (.pr (.int .i64) (.int .u32)))))] [2, 3, 4, 7, 8, 9, 10, 32, 34] [3, 4, 7] (fun (ret34v : Int) => gcall (α := Int) (!((!ret30v) || (!decide (ret34v = (0 : Int))))) (VC16 tv.2.1 w) (0 : Int) (fun (ret41v : Int) => (((((!ret30v) || (!decide (ret34v = (0 : Int)))) || (!decide (ret41v = (0 : Int)))) = true → K ((!decide (ret20v.2 = (0 : Int))) || (!decide (ret26v.2 = (0 : Int))))) ∧ ((((!ret30v) || (!decide (ret34v = (0 : Int)))) || (!decide (ret41v = (0 : Int)))) = false → (((!decide (ret26v.2 = (0 : Int))) = true → K false) ∧ ((!decide (ret26v.2 = (0 : Int))) = false → (((!decide (ret20v.2 = (0 : Int))) = true → K (decide (ret20v.1.1 = (0 : Int)))) ∧ ((!decide (ret20v.2 = (0 : Int))) = false → VC22 ret20v.1 w (fun (ret60v : Int × Bool × Int) => VC22 m ret26v.1 (fun (ret67v : Int × Bool × Int) => K ((decide (ret60v.2.2 = (0 : Int))) && (((decide ((12 : Int) < (ret26v.1.length : Int))) && (!decide (ret67v.2.2 = (0 : Int)))) || ((decide (ret67v.2.2 = (0 : Int))) && (ret60v.2.1 == ret67v.2.1)))))))))))))) (fun ret34v => [toV1 (.int .i64) ret34v]) (fun ret34v => (⟨91, [(2, [], .v (.c (.p (.sl (.int .i64)) w))), (3, [], .v (.c (.ptr 3 0))), (4, [], .v (.c (.ptr 4 0))), (7, [], .v (.c (.ptr 7 0))), (8, [], .v (.c (.p (.int .i64) ret20v.2))), (9, [], .v (.c (.p (.sl (.int .i64)) ret26v.1))), (10, [], .v (.c (.p (.int .i64) ret26v.2))), (32, [], .v (.c (.p .bool (!ret30v)))), (34, [(32, false)], .v (.c (.p (.int .i64) ret34v)))], [(3, [], .box [.p (.int .i64) tv.1, .p (.int .i64) tv.2.1, .p (.int .i64) tv.2.2.1, .p (.sl (.sl (.int .i64))) tv.2.2.2.1, .p (.sl (.sl (.sl (.int .i64)))) tv.2.2.2.2.1, .p (.int .i64) tv.2.2.2.2.2]), (4, [], .box [.p (.int .i64) m.1, .p (.int .i64) m.2.1, .p (.sl (.sl (.int .i64))) m.2.2.1, .p (.int .i64) m.2.2.2.1, .p (.int .u32) m.2.2.2.2]), (7, [], .box [.p (.int .i64) ret20v.1.1, .p (.int .i64) ret20v.1.2.1, .p (.sl (.sl (.int .i64))) ret20v.1.2.2.1, .p (.int .i64) ret20v.1.2.2.2.1, .p (.int .u32) ret20v.1.2.2.2.2])]⟩ : St)) (by kernel_rfl) rfl (by kernel_rfl) rfl (by kernel_rfl) Try.call21 (by kernel_rfl) (fun ret34v => by kernel_rfl) (fun e => by cases e) (fun hg => link21 m _ (by have := gcall_T h (show (!(!ret30v)) = true from hg); exact this)) (fun hg => ⟨(0 : Int), by have := gcall_F h (show (!(!ret30v)) = false from hg); exact this⟩) (fun ret34v h => ?_)
  have h : gcall (α := Int) (!((!ret30v) || (!decide (ret34v = (0 : Int))))) (VC16 tv.2.1 w) (0 : Int) (fun (ret41v : Int) => (((((!ret30v) || (!decide (ret34v = (0 : Int)))) || (!decide (ret41v = (0 : Int)))) = true → K ((!decide (ret20v.2 = (0 : Int))) || (!decide (ret26v.2 = (0 : Int))))) ∧ ((((!ret30v) || (!decide (ret34v = (0 : Int)))) || (!decide (ret41v = (0 : Int)))) = false → (((!decide (ret26v.2 = (0 : Int))) = true → K false) ∧ ((!decide (ret26v.2 = (0 : Int))) = false → (((!decide (ret20v.2 = (0 : Int))) = true → K (decide (ret20v.1.1 = (0 : Int)))) ∧ ((!decide (ret20v.2 = (0 : Int))) = false → VC22 ret20v.1 w (fun (ret60v : Int × Bool × Int) => VC22 m ret26v.1 (fun (ret67v : Int × Bool × Int) => K ((decide (ret60v.2.2 = (0 : Int))) && (((decide ((12 : Int) < (ret26v.1.length : Int))) && (!decide (ret67v.2.2 = (0 : Int)))) || ((decide (ret67v.2.2 = (0 : Int))) && (ret60v.2.1 == ret67v.2.1))))))))))))) := h
  refine awl_runp 6 [2, 4, 7, 8, 9, 10, 37, 39, 40] [4, 7] (ob := (((!ret30v) = false → True) ∧ True ∧ True ∧ (((!ret30v) || (!decide (ret34v = (0 : Int)))) = false → True) ∧ (((!ret30v) || (!decide (ret34v = (0 : Int)))) = false → True) ∧ (((!ret30v) || (!decide (ret34v = (0 : Int)))) = false → True) ∧ True)) (st' := (⟨91, [(2, [], .v (.c (.p (.sl (.int .i64)) w))), (4, [], .v (.c (.ptr 4 0))), (7, [], .v (.c (.ptr 7 0))), (8, [], .v (.c (.p (.int .i64) ret20v.2))), (9, [], .v (.c (.p (.sl (.int .i64)) ret26v.1))), (10, [], .v (.c (.p (.int .i64) ret26v.2))), (37, [], .v (.c (.p .bool ((!ret30v) || (!decide (ret34v = (0 : Int))))))), (39, [(37, false)], .v (.c (.p (.int .i64) tv.2.1))), (40, [(37, false)], .v (.c (.p (.sl (.int .i64)) w)))], [(4, [], .box [.p (.int .i64) m.1, .p (.int .i64) m.2.1, .p (.sl (.sl (.int .i64))) m.2.2.1, .p (.int .i64) m.2.2.2.1, .p (.int .u32) m.2.2.2.2]), (7, [], .box [.p (.int .i64) ret20v.1.1, .p (.int .i64) ret20v.1.2.1, .p (.sl (.sl (.int .i64))) ret20v.1.2.2.1, .p (.int .i64) ret20v.1.2.2.2.1, .p (.int .u32) ret20v.1.2.2.2.2])]⟩ : St)) (by kernel_rfl) ⟨(fun _ => trivial), trivial, trivial, (fun _ => trivial), (fun _ => trivial), (fun _ => trivial), trivial⟩ ?_
  refine awl_callk (p := [(37, false)]) (l := [toV1 (.int .i64) tv.2.1, toV1 (.sl (.int .i64)) w]) (cl := []) false [.d (.int .i64), .d (.sl (.int .i64))] [2, 4, 7, 8, 9, 10, 37, 41] [4, 7] (fun (ret41v : Int) => (((((!ret30v) || (!decide (ret34v = (0 : Int)))) || (!decide (ret41v = (0 : Int)))) = true → K ((!decide (ret20v.2 = (0 : Int))) || (!decide (ret26v.2 = (0 : Int))))) ∧ ((((!ret30v) || (!decide (ret34v = (0 : Int)))) || (!decide (ret41v = (0 : Int)))) = false → (((!decide (ret26v.2 = (0 : Int))) = true → K false) ∧ ((!decide (ret26v.2 = (0 : Int))) = false → (((!decide (ret20v.2 = (0 : Int))) = true → K (decide (ret20v.1.1 = (0 : Int)))) ∧ ((!decide (ret20v.2 = (0 : Int))) = false → VC22 ret20v.1 w (fun (ret60v : Int × Bool × Int) => VC22 m ret26v.1 (fun (ret67v : Int × Bool × Int) => K ((decide (ret60v.2.2 = (0 : Int))) && (((decide ((12 : Int) < (ret26v.1.length : Int))) && (!decide (ret67v.2.2 = (0 : Int)))) || ((decide (ret67v.2.2 = (0 : Int))) && (ret60v.2.1 == ret67v.2.1))))))))))))) (fun ret41v => [toV1 (.int .i64) ret41v]) (fun ret41v => (⟨91, [(2, [], .v (.c (.p (.sl (.int .i64)) w))), (4, [], .v (.c (.ptr 4 0))), (7, [], .v (.c (.ptr 7 0))), (8, [], .v (.c (.p (.int .i64) ret20v.2))), (9, [], .v (.c (.p (.sl (.int .i64)) ret26v.1))), (10, [], .v (.c (.p (.int .i64) ret26v.2))), (37, [], .v (.c (.p .bool ((!ret30v) || (!decide (ret34v = (0 : Int))))))), (41, [(37, false)], .v (.c (.p (.int .i64) ret41v)))], [(4, [], .box [.p (.int .i64) m.1, .p (.int .i64) m.2.1, .p (.sl (.sl (.int .i64))) m.2.2.1, .p (.int .i64) m.2.2.2.1, .p (.int .u32) m.2.2.2.2]), (7, [], .box [.p (.int .i64) ret20v.1.1, .p (.int .i64) ret20v.1.2.1, .p (.sl (.sl (.int .i64))) ret20v.1.2.2.1, .p (.int .i64) ret20v.1.2.2.2.1, .p (.int .u32) ret20v.1.2.2.2.2])]⟩ : St)) (by kernel_rfl) rfl (by kernel_rfl) rfl (by kernel_rfl) Try.call16 (by kernel_rfl) (fun ret41v => by kernel_rfl) (fun e => by cases e) (fun hg => link16 tv.2.1 w _ (by have := gcall_T h (show (!((!ret30v) || (!decide (ret34v = (0 : Int))))) = true from hg); exact this)) (fun hg => ⟨(0 : Int), by have := gcall_F h (show (!((!ret30v) || (!decide (ret34v = (0 : Int))))) = false from hg); exact this⟩) (fun ret41v h => ?_)
  have h : (((((!ret30v) || (!decide (ret34v = (0 : Int)))) || (!decide (ret41v = (0 : Int)))) = true → K ((!decide (ret20v.2 = (0 : Int))) || (!decide (ret26v.2 = (0 : Int))))) ∧ ((((!ret30v) || (!decide (ret34v = (0 : Int)))) || (!decide (ret41v = (0 : Int)))) = false → (((!decide (ret26v.2 = (0 : Int))) = true → K false) ∧ ((!decide (ret26v.2 = (0 : Int))) = false → (((!decide (ret20v.2 = (0 : Int))) = true → K (decide (ret20v.1.1 = (0 : Int)))) ∧ ((!decide (ret20v.2 = (0 : Int))) = false → VC22 ret20v.1 w (fun (ret60v : Int × Bool × Int) => VC22 m ret26v.1 (fun (ret67v : Int × Bool × Int) => K ((decide (ret60v.2.2 = (0 : Int))) && (((decide ((12 : Int) < (ret26v.1.length : Int))) && (!decide (ret67v.2.2 = (0 : Int)))) || ((decide (ret67v.2.2 = (0 : Int))) && (ret60v.2.1 == ret67v.2.1)))))))))))) := h
  refine awl_runp 2 [2, 4, 7, 8, 9, 10, 43] [4, 7] (ob := ((((!ret30v) || (!decide (ret34v = (0 : Int)))) = false → True) ∧ True ∧ True)) (st' := (⟨91, [(2, [], .v (.c (.p (.sl (.int .i64)) w))), (4, [], .v (.c (.ptr 4 0))), (7, [], .v (.c (.ptr 7 0))), (8, [], .v (.c (.p (.int .i64) ret20v.2))), (9, [], .v (.c (.p (.sl (.int .i64)) ret26v.1))), (10, [], .v (.c (.p (.int .i64) ret26v.2))), (43, [], .v (.c (.p .bool (((!ret30v) || (!decide (ret34v = (0 : Int)))) || (!decide (ret41v = (0 : Int)))))))], [(4, [], .box [.p (.int .i64) m.1, .p (.int .i64) m.2.1, .p (.sl (.sl (.int .i64))) m.2.2.1, .p (.int .i64) m.2.2.2.1, .p (.int .u32) m.2.2.2.2]), (7, [], .box [.p (.int .i64) ret20v.1.1, .p (.int .i64) ret20v.1.2.1, .p (.sl (.sl (.int .i64))) ret20v.1.2.2.1, .p (.int .i64) ret20v.1.2.2.2.1, .p (.int .u32) ret20v.1.2.2.2.2])]⟩ : St)) (by kernel_rfl) ⟨(fun _ => trivial), trivial, trivial⟩ ?_
  refine awl_nil ?_
  refine thenQ_n ?_
  refine aw_cond (b := (((!ret30v) || (!decide (ret34v = (0 : Int)))) || (!decide (ret41v = (0 : Int))))) (by kernel_rfl) (fun hb => ?_) (fun hb => ?_)
  · have h := h.1 hb
    refine aw_seq ?_
    refine aw_region ?_
    refine awl_runp 7 [6] [] (ob := (True ∧ True ∧ True ∧ ((!decide (ret20v.2 = (0 : Int))) = false → True) ∧ ((!decide (ret20v.2 = (0 : Int))) = false → True) ∧ True ∧ True ∧ True)) (st' := (⟨91, [(6, [], .v (.c (.p .bool ((!decide (ret20v.2 = (0 : Int))) || (!decide (ret26v.2 = (0 : Int)))))))], []⟩ : St)) (by kernel_rfl) ⟨trivial, trivial, trivial, (fun _ => trivial), (fun _ => trivial), trivial, trivial, trivial⟩ ?_
    refine awl_nil ?_
    refine thenQ_n ?_
    refine aw_ret ?_
    refine thenQ_r ?_
    exact retQ_r (σ := Bool) (R := (fun y => [toV1 .bool y])) (ob := (True ∧ True)) ((!decide (ret20v.2 = (0 : Int))) || (!decide (ret26v.2 = (0 : Int)))) (by kernel_rfl) ⟨trivial, trivial⟩ h
  · have h := h.2 hb
    refine aw_skip ?_
    refine thenQ_n ?_
    refine aw_seq ?_
    refine aw_seq ?_
    refine aw_region ?_
    refine awl_runp 2 [2, 4, 7, 8, 9, 51] [4, 7] (ob := (True ∧ True ∧ True)) (st' := (⟨91, [(2, [], .v (.c (.p (.sl (.int .i64)) w))), (4, [], .v (.c (.ptr 4 0))), (7, [], .v (.c (.ptr 7 0))), (8, [], .v (.c (.p (.int .i64) ret20v.2))), (9, [], .v (.c (.p (.sl (.int .i64)) ret26v.1))), (51, [], .v (.c (.p .bool (!decide (ret26v.2 = (0 : Int))))))], [(4, [], .box [.p (.int .i64) m.1, .p (.int .i64) m.2.1, .p (.sl (.sl (.int .i64))) m.2.2.1, .p (.int .i64) m.2.2.2.1, .p (.int .u32) m.2.2.2.2]), (7, [], .box [.p (.int .i64) ret20v.1.1, .p (.int .i64) ret20v.1.2.1, .p (.sl (.sl (.int .i64))) ret20v.1.2.2.1, .p (.int .i64) ret20v.1.2.2.2.1, .p (.int .u32) ret20v.1.2.2.2.2])]⟩ : St)) (by kernel_rfl) ⟨trivial, trivial, trivial⟩ ?_
    refine awl_nil ?_
    refine thenQ_n ?_
    refine aw_cond (b := (!decide (ret26v.2 = (0 : Int)))) (by kernel_rfl) (fun hb => ?_) (fun hb => ?_)
    · have h := h.1 hb
      refine aw_seq ?_
      refine aw_region ?_
      refine awl_runp 1 [6] [] (ob := (True ∧ True)) (st' := (⟨91, [(6, [], .v (.c (.p .bool false)))], []⟩ : St)) (by kernel_rfl) ⟨trivial, trivial⟩ ?_
      refine awl_nil ?_
      refine thenQ_n ?_
      refine aw_ret ?_
      refine thenQ_r ?_
      exact retQ_r (σ := Bool) (R := (fun y => [toV1 .bool y])) (ob := (True ∧ True)) false (by kernel_rfl) ⟨trivial, trivial⟩ h
    · have h := h.2 hb
      refine aw_skip ?_
      refine thenQ_n ?_
      refine aw_seq ?_
      refine aw_seq ?_
      refine aw_region ?_
      refine awl_runp 2 [2, 4, 7, 9, 53] [4, 7] (ob := (True ∧ True ∧ True)) (st' := (⟨91, [(2, [], .v (.c (.p (.sl (.int .i64)) w))), (4, [], .v (.c (.ptr 4 0))), (7, [], .v (.c (.ptr 7 0))), (9, [], .v (.c (.p (.sl (.int .i64)) ret26v.1))), (53, [], .v (.c (.p .bool (!decide (ret20v.2 = (0 : Int))))))], [(4, [], .box [.p (.int .i64) m.1, .p (.int .i64) m.2.1, .p (.sl (.sl (.int .i64))) m.2.2.1, .p (.int .i64) m.2.2.2.1, .p (.int .u32) m.2.2.2.2]), (7, [], .box [.p (.int .i64) ret20v.1.1, .p (.int .i64) ret20v.1.2.1, .p (.sl (.sl (.int .i64))) ret20v.1.2.2.1, .p (.int .i64) ret20v.1.2.2.2.1, .p (.int .u32) ret20v.1.2.2.2.2])]⟩ : St)) (by kernel_rfl) ⟨trivial, trivial, trivial⟩ ?_
      refine awl_nil ?_
      refine thenQ_n ?_
      refine aw_cond (b := (!decide (ret20v.2 = (0 : Int)))) (by kernel_rfl) (fun hb => ?_) (fun hb => ?_)
      · have h := h.1 hb
        refine aw_seq ?_
        refine aw_region ?_
        refine awl_runp 4 [6] [] (ob := (True ∧ True ∧ True ∧ True ∧ True)) (st' := (⟨91, [(6, [], .v (.c (.p .bool (decide (ret20v.1.1 = (0 : Int))))))], []⟩ : St)) (by kernel_rfl) ⟨trivial, trivial, trivial, trivial, trivial⟩ ?_
        refine awl_nil ?_
        refine thenQ_n ?_
        refine aw_ret ?_
        refine thenQ_r ?_
        exact retQ_r (σ := Bool) (R := (fun y => [toV1 .bool y])) (ob := (True ∧ True)) (decide (ret20v.1.1 = (0 : Int))) (by kernel_rfl) ⟨trivial, trivial⟩ h
      · have h := h.2 hb
        refine aw_skip ?_
        refine thenQ_n ?_
        refine aw_seq ?_
        refine aw_region ?_
        refine awl_runp 2 [4, 9, 58, 59] [4] (ob := (True ∧ True ∧ True)) (st' := (⟨91, [(4, [], .v (.c (.ptr 4 0))), (9, [], .v (.c (.p (.sl (.int .i64)) ret26v.1))), (58, [], .v (.agg [.p (.int .i64) ret20v.1.1, .p (.int .i64) ret20v.1.2.1, .p (.sl (.sl (.int .i64))) ret20v.1.2.2.1, .p (.int .i64) ret20v.1.2.2.2.1, .p (.int .u32) ret20v.1.2.2.2.2])), (59, [], .v (.c (.p (.sl (.int .i64)) w)))], [(4, [], .box [.p (.int .i64) m.1, .p (.int .i64) m.2.1, .p (.sl (.sl (.int .i64))) m.2.2.1, .p (.int .i64) m.2.2.2.1, .p (.int .u32) m.2.2.2.2])]⟩ : St)) (by kernel_rfl) ⟨trivial, trivial, trivial⟩ ?_
        refine awl_callk (p := []) (l := [toV1 (.pr (.int .i64) (.pr (.int .i64) (.pr (.sl (.sl (.int .i64))) (.pr (.int .i64) (.int .u32))))) ret20v.1, toV1 (.sl (.int .i64)) w]) (cl := []) false [.d (.pr (.int .i64) (.pr (.int .i64) (.pr (.sl (.sl (.int .i64))) (.pr (.int .i64) (.int .u32))))), .d (.sl (.int .i64))] [4, 9, 60] [4] (fun (ret60v : Int × Bool × Int) => VC22 m ret26v.1 (fun (ret67v : Int × Bool × Int) => K ((decide (ret60v.2.2 = (0 : Int))) && (((decide ((12 : Int) < (ret26v.1.length : Int))) && (!decide (ret67v.2.2 = (0 : Int)))) || ((decide (ret67v.2.2 = (0 : Int))) && (ret60v.2.1 == ret67v.2.1)))))) (fun ret60v => [toV1 (.int .i64) ret60v.1, toV1 .bool ret60v.2.1, toV1 (.int .i64) ret60v.2.2]) (fun ret60v => (⟨91, [(4, [], .v (.c (.ptr 4 0))), (9, [], .v (.c (.p (.sl (.int .i64)) ret26v.1))), (60, [], .tup [.c (.p (.int .i64) ret60v.1), .c (.p .bool ret60v.2.1), .c (.p (.int .i64) ret60v.2.2)])], [(4, [], .box [.p (.int .i64) m.1, .p (.int .i64) m.2.1, .p (.sl (.sl (.int .i64))) m.2.2.1, .p (.int .i64) m.2.2.2.1, .p (.int .u32) m.2.2.2.2])]⟩ : St)) (by kernel_rfl) rfl (by kernel_rfl) rfl (by kernel_rfl) Try.call22 (by kernel_rfl) (fun ret60v => by kernel_rfl) (fun e => by cases e) (fun hg => link22 ret20v.1 w _ h) (fun hg => noF hg) (fun ret60v h => ?_)
        have h : VC22 m ret26v.1 (fun (ret67v : Int × Bool × Int) => K ((decide (ret60v.2.2 = (0 : Int))) && (((decide ((12 : Int) < (ret26v.1.length : Int))) && (!decide (ret67v.2.2 = (0 : Int)))) || ((decide (ret67v.2.2 = (0 : Int))) && (ret60v.2.1 == ret67v.2.1))))) := h
        refine awl_runp 7 [4, 9, 12, 13] [4] (ob := (True ∧ True ∧ True ∧ True ∧ True ∧ True ∧ True ∧ True)) (st' := (⟨91, [(4, [], .v (.c (.ptr 4 0))), (9, [], .v (.c (.p (.sl (.int .i64)) ret26v.1))), (12, [], .v (.c (.p .bool ret60v.2.1))), (13, [], .v (.c (.p (.int .i64) ret60v.2.2)))], [(4, [], .box [.p (.int .i64) m.1, .p (.int .i64) m.2.1, .p (.sl (.sl (.int .i64))) m.2.2.1, .p (.int .i64) m.2.2.2.1, .p (.int .u32) m.2.2.2.2])]⟩ : St)) (by kernel_rfl) ⟨trivial, trivial, trivial, trivial, trivial, trivial, trivial, trivial⟩ ?_
        refine awl_nil ?_
        refine thenQ_n ?_
        refine aw_seq ?_
        refine aw_region ?_
        refine awl_runp 2 [9, 12, 13, 65, 66] [] (ob := (True ∧ True ∧ True)) (st' := (⟨91, [(9, [], .v (.c (.p (.sl (.int .i64)) ret26v.1))), (12, [], .v (.c (.p .bool ret60v.2.1))), (13, [], .v (.c (.p (.int .i64) ret60v.2.2))), (65, [], .v (.agg [.p (.int .i64) m.1, .p (.int .i64) m.2.1, .p (.sl (.sl (.int .i64))) m.2.2.1, .p (.int .i64) m.2.2.2.1, .p (.int .u32) m.2.2.2.2])), (66, [], .v (.c (.p (.sl (.int .i64)) ret26v.1)))], []⟩ : St)) (by kernel_rfl) ⟨trivial, trivial, trivial⟩ ?_
        refine awl_callk (p := []) (l := [toV1 (.pr (.int .i64) (.pr (.int .i64) (.pr (.sl (.sl (.int .i64))) (.pr (.int .i64) (.int .u32))))) m, toV1 (.sl (.int .i64)) ret26v.1]) (cl := []) false [.d (.pr (.int .i64) (.pr (.int .i64) (.pr (.sl (.sl (.int .i64))) (.pr (.int .i64) (.int .u32))))), .d (.sl (.int .i64))] [9, 12, 13, 67] [] (fun (ret67v : Int × Bool × Int) => K ((decide (ret60v.2.2 = (0 : Int))) && (((decide ((12 : Int) < (ret26v.1.length : Int))) && (!decide (ret67v.2.2 = (0 : Int)))) || ((decide (ret67v.2.2 = (0 : Int))) && (ret60v.2.1 == ret67v.2.1))))) (fun ret67v => [toV1 (.int .i64) ret67v.1, toV1 .bool ret67v.2.1, toV1 (.int .i64) ret67v.2.2]) (fun ret67v => (⟨91, [(9, [], .v (.c (.p (.sl (.int .i64)) ret26v.1))), (12, [], .v (.c (.p .bool ret60v.2.1))), (13, [], .v (.c (.p (.int .i64) ret60v.2.2))), (67, [], .tup [.c (.p (.int .i64) ret67v.1), .c (.p .bool ret67v.2.1), .c (.p (.int .i64) ret67v.2.2)])], []⟩ : St)) (by kernel_rfl) rfl (by kernel_rfl) rfl (by kernel_rfl) Try.call22 (by kernel_rfl) (fun ret67v => by kernel_rfl) (fun e => by cases e) (fun hg => link22 m ret26v.1 _ h) (fun hg => noF hg) (fun ret67v h => ?_)
        have h : K ((decide (ret60v.2.2 = (0 : Int))) && (((decide ((12 : Int) < (ret26v.1.length : Int))) && (!decide (ret67v.2.2 = (0 : Int)))) || ((decide (ret67v.2.2 = (0 : Int))) && (ret60v.2.1 == ret67v.2.1)))) := h
        refine awl_runp 7 [9, 12, 13, 15, 16] [] (ob := (True ∧ True ∧ True ∧ True ∧ True ∧ True ∧ True ∧ True)) (st' := (⟨91, [(9, [], .v (.c (.p (.sl (.int .i64)) ret26v.1))), (12, [], .v (.c (.p .bool ret60v.2.1))), (13, [], .v (.c (.p (.int .i64) ret60v.2.2))), (15, [], .v (.c (.p .bool ret67v.2.1))), (16, [], .v (.c (.p (.int .i64) ret67v.2.2)))], []⟩ : St)) (by kernel_rfl) ⟨trivial, trivial, trivial, trivial, trivial, trivial, trivial, trivial⟩ ?_
        refine awl_nil ?_
        refine thenQ_n ?_
        refine aw_seq ?_
        refine aw_region ?_
        refine awl_runp 21 [6] [] (ob := (True ∧ True ∧ True ∧ ((decide (ret60v.2.2 = (0 : Int))) = true → True) ∧ ((decide (ret60v.2.2 = (0 : Int))) = true → True) ∧ ((decide (ret60v.2.2 = (0 : Int))) = true → True) ∧ ((decide (ret60v.2.2 = (0 : Int))) = true → True) ∧ ((decide (ret60v.2.2 = (0 : Int))) = true → ((decide ((12 : Int) < (ret26v.1.length : Int))) = true → True)) ∧ ((decide (ret60v.2.2 = (0 : Int))) = true → ((decide ((12 : Int) < (ret26v.1.length : Int))) = true → True)) ∧ ((decide (ret60v.2.2 = (0 : Int))) = true → True) ∧ ((decide (ret60v.2.2 = (0 : Int))) = true → True) ∧ ((decide (ret60v.2.2 = (0 : Int))) = true → (((decide ((12 : Int) < (ret26v.1.length : Int))) && (!decide (ret67v.2.2 = (0 : Int)))) = false → True)) ∧ ((decide (ret60v.2.2 = (0 : Int))) = true → (((decide ((12 : Int) < (ret26v.1.length : Int))) && (!decide (ret67v.2.2 = (0 : Int)))) = false → True)) ∧ ((decide (ret60v.2.2 = (0 : Int))) = true → (((decide ((12 : Int) < (ret26v.1.length : Int))) && (!decide (ret67v.2.2 = (0 : Int)))) = false → True)) ∧ ((decide (ret60v.2.2 = (0 : Int))) = true → (((decide ((12 : Int) < (ret26v.1.length : Int))) && (!decide (ret67v.2.2 = (0 : Int)))) = false → ((decide (ret67v.2.2 = (0 : Int))) = true → True))) ∧ ((decide (ret60v.2.2 = (0 : Int))) = true → (((decide ((12 : Int) < (ret26v.1.length : Int))) && (!decide (ret67v.2.2 = (0 : Int)))) = false → ((decide (ret67v.2.2 = (0 : Int))) = true → True))) ∧ ((decide (ret60v.2.2 = (0 : Int))) = true → (((decide ((12 : Int) < (ret26v.1.length : Int))) && (!decide (ret67v.2.2 = (0 : Int)))) = false → ((decide (ret67v.2.2 = (0 : Int))) = true → True))) ∧ ((decide (ret60v.2.2 = (0 : Int))) = true → (((decide ((12 : Int) < (ret26v.1.length : Int))) && (!decide (ret67v.2.2 = (0 : Int)))) = false → True)) ∧ ((decide (ret60v.2.2 = (0 : Int))) = true → True) ∧ True ∧ True ∧ True)) (st' := (⟨91, [(6, [], .v (.c (.p .bool ((decide (ret60v.2.2 = (0 : Int))) && (((decide ((12 : Int) < (ret26v.1.length : Int))) && (!decide (ret67v.2.2 = (0 : Int)))) || ((decide (ret67v.2.2 = (0 : Int))) && (ret60v.2.1 == ret67v.2.1)))))))], []⟩ : St)) (by kernel_rfl) ⟨trivial, trivial, trivial, (fun _ => trivial), (fun _ => trivial), (fun _ => trivial), (fun _ => trivial), (fun _ _ => trivial), (fun _ _ => trivial), (fun _ => trivial), (fun _ => trivial), (fun _ _ => trivial), (fun _ _ => trivial), (fun _ _ => trivial), (fun _ _ _ => trivial), (fun _ _ _ => trivial), (fun _ _ _ => trivial), (fun _ _ => trivial), (fun _ => trivial), trivial, trivial, trivial⟩ ?_
        refine awl_nil ?_
        refine thenQ_n ?_
        refine aw_ret ?_
        exact retQ_r (σ := Bool) (R := (fun y => [toV1 .bool y])) (ob := (True ∧ True)) ((decide (ret60v.2.2 = (0 : Int))) && (((decide ((12 : Int) < (ret26v.1.length : Int))) && (!decide (ret67v.2.2 = (0 : Int)))) || ((decide (ret67v.2.2 = (0 : Int))) && (ret60v.2.1 == ret67v.2.1)))) (by kernel_rfl) ⟨trivial, trivial⟩ h

end Dec
