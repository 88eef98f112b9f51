/-
  Printed by dec.py: of each function its plain demand, and that the demand gives the contract.
-/
import Derived.Test.YtjjlefbbdnfjiaaGenA
set_option linter.unusedVariables false
set_option linter.unusedSimpArgs false
set_option maxRecDepth 100000
namespace Dec
open Go Go.RowKit Go.Proofs

-- coppicer/edit.Far
def VC20_k2 (v : (List Int)) (K : Int × Int → Prop) (row2 : (List Int)) : Prop :=
  (inIdx (v.length : Int) row2.length ∧ K ((row2.getD (((v.length : Int)).toNat) (0 : Int)), (0 : Int)))

def VC20_k3 (v38 : Int) (X1 : Int × (List Int) → Prop) (row3 : (List Int)) : Prop :=
  (InR (v38 + (1 : Int)) ∧ X1 ((v38 + (1 : Int)), row3))

def VC20_k4 (v52 : Int) (row3 : (List Int)) (X2 : Int × Int × (List Int) → Prop) (best : Int) : Prop :=
  (InR (v52 + (1 : Int)) ∧ inIdx (v52 + (1 : Int)) row3.length ∧ (InR (v52 + (1 : Int)) ∧ inIdx (v52 + (1 : Int)) row3.length ∧ (InR (v52 + (1 : Int)) ∧ X2 ((row3.getD (((v52 + (1 : Int))).toNat) (0 : Int)), (v52 + (1 : Int)), (row3.set (((v52 + (1 : Int))).toNat) best)))))

def VC20_l2 (u : (List Int)) (v : (List Int)) (v38 : Int) (X1 : Int × (List Int) → Prop) (last : Int) (v52 : Int) (row3 : (List Int)) (X2 : Int × Int × (List Int) → Prop) : Prop :=
  (((decide (v52 < (v.length : Int))) = true → (inIdx v52 v.length ∧ (inIdx v52 row3.length ∧ InR (v52 + (1 : Int)) ∧ inIdx (v52 + (1 : Int)) row3.length ∧ InR ((imin (row3.getD ((v52).toNat) (0 : Int)) (row3.getD (((v52 + (1 : Int))).toNat) (0 : Int))) + (1 : Int)) ∧ (((decide ((u.getD (v38).toNat (0 : Int)) = (v.getD (v52).toNat (0 : Int)))) = true → VC20_k4 v52 row3 X2 (imin ((imin (row3.getD ((v52).toNat) (0 : Int)) (row3.getD (((v52 + (1 : Int))).toNat) (0 : Int))) + (1 : Int)) last)) ∧ ((decide ((u.getD (v38).toNat (0 : Int)) = (v.getD (v52).toNat (0 : Int)))) = false → (InR (last + (1 : Int)) ∧ VC20_k4 v52 row3 X2 (imin ((imin (row3.getD ((v52).toNat) (0 : Int)) (row3.getD (((v52 + (1 : Int))).toNat) (0 : Int))) + (1 : Int)) (last + (1 : Int))))))))) ∧ ((decide (v52 < (v.length : Int))) = false → VC20_k3 v38 X1 row3))

def VC20_l1 (u : (List Int)) (v : (List Int)) (K : Int × Int → Prop) (v38 : Int) (row2 : (List Int)) (X1 : Int × (List Int) → Prop) : Prop :=
  (((decide (v38 < (u.length : Int))) = true → (inIdx v38 u.length ∧ (inIdx (0 : Int) row2.length ∧ (InR (v38 + (1 : Int)) ∧ inIdx (0 : Int) row2.length ∧ Loop (σ := Int × Int × (List Int)) (fun s X => VC20_l2 u v v38 X1 s.1 s.2.1 s.2.2 X) ((row2.getD (((0 : Int)).toNat) (0 : Int)), (0 : Int), (row2.set (((0 : Int)).toNat) (v38 + (1 : Int)))))))) ∧ ((decide (v38 < (u.length : Int))) = false → VC20_k2 v K row2))

def VC20_k1 (u : (List Int)) (v : (List Int)) (K : Int × Int → Prop) (row : (List Int)) : Prop :=
  Loop (σ := Int × (List Int)) (fun s X => VC20_l1 u v K s.1 s.2 X) ((0 : Int), row)

def VC20_l3 (u : (List Int)) (v : (List Int)) (K : Int × Int → Prop) (v28 : Int) (row : (List Int)) (X3 : Int × (List Int) → Prop) : Prop :=
  (((decide (v28 < ((List.replicate (((v.length : Int) + (1 : Int))).toNat (0 : Int)).length : Int))) = true → (inIdx v28 row.length ∧ (InR (v28 + (1 : Int)) ∧ X3 ((v28 + (1 : Int)), (row.set ((v28).toNat) v28))))) ∧ ((decide (v28 < ((List.replicate (((v.length : Int) + (1 : Int))).toNat (0 : Int)).length : Int))) = false → VC20_k1 u v K row))

def VC20 (u : (List Int)) (v : (List Int)) (K : Int × Int → Prop) : Prop :=
  VC38 [u, v] (fun (ret18v : Int) => (((!decide (ret18v = (0 : Int))) = true → K ((0 : Int), ret18v)) ∧ ((!decide (ret18v = (0 : Int))) = false → (InR ((v.length : Int) + (1 : Int)) ∧ room ((v.length : Int) + (1 : Int)) ∧ Loop (σ := Int × (List Int)) (fun s X => VC20_l3 u v K s.1 s.2 X) ((0 : Int), (List.replicate (((v.length : Int) + (1 : Int))).toNat (0 : Int)))))))

set_option maxHeartbeats 4000000 in
theorem link20 (u : (List Int)) (v : (List Int)) (K : Int × Int → Prop) (h : VC20 u v K) : ACalls Try.prog 20 [toV1 (.sl (.int .u8)) u, toV1 (.sl (.int .u8)) v] (fun res => ∃ y, res = (fun y => [toV1 (.int .i64) y.1, toV1 (.int .i64) y.2]) y ∧ K y) := by
  refine acalls_of_aw [(.int .i64), (.int .i64)] [4, 5] Try.func20 rfl rfl rfl ?_
  unfold VC20 at h
  refine aw_seq ?_
  refine aw_region ?_
  refine awl_runp 2 [0, 1] [] (ob := (True ∧ True ∧ True)) (st' := (⟨95, [(0, [], .v (.c (.p (.sl (.int .u8)) u))), (1, [], .v (.c (.p (.sl (.int .u8)) v)))], []⟩ : St)) (by kernel_rfl) ⟨trivial, trivial, trivial⟩ ?_
  refine awl_nil ?_
  refine thenQ_n ?_
  refine aw_seq ?_
  refine aw_seq ?_
  refine aw_region ?_
  refine awl_runp 3 [0, 1, 17] [17] (ob := (True ∧ True ∧ True ∧ True)) (st' := (⟨95, [(0, [], .v (.c (.p (.sl (.int .u8)) u))), (1, [], .v (.c (.p (.sl (.int .u8)) v))), (17, [], .v (.c (.own 17)))], [(17, [], .arr 22 (.sl (.int .u8)) [u, v])]⟩ : St)) (by kernel_rfl) ⟨trivial, trivial, trivial, trivial⟩ ?_
  refine awl_callk (p := []) (l := [toV1 (.sl (.sl (.int .u8))) [u, v]]) true [(.sl (.sl (.int .u8)))] [0, 1, 18] [] (fun (ret18v : Int) => (((!decide (ret18v = (0 : Int))) = true → K ((0 : Int), ret18v)) ∧ ((!decide (ret18v = (0 : Int))) = false → (InR ((v.length : Int) + (1 : Int)) ∧ room ((v.length : Int) + (1 : Int)) ∧ Loop (σ := Int × (List Int)) (fun s X => VC20_l3 u v K s.1 s.2 X) ((0 : Int), (List.replicate (((v.length : Int) + (1 : Int))).toNat (0 : Int))))))) (fun ret18v => [toV1 (.int .i64) ret18v]) (fun ret18v => (⟨95, [(0, [], .v (.c (.p (.sl (.int .u8)) u))), (1, [], .v (.c (.p (.sl (.int .u8)) v))), (18, [], .v (.c (.p (.int .i64) ret18v)))], []⟩ : St)) (by kernel_rfl) rfl (by kernel_rfl) rfl rfl Try.call38 (by kernel_rfl) (fun ret18v => by kernel_rfl) (fun _ _ => rfl) (fun hg => link38 [u, v] _ h) (fun hg => noF hg) (fun ret18v h => ?_)
  have h : (((!decide (ret18v = (0 : Int))) = true → K ((0 : Int), ret18v)) ∧ ((!decide (ret18v = (0 : Int))) = false → (InR ((v.length : Int) + (1 : Int)) ∧ room ((v.length : Int) + (1 : Int)) ∧ Loop (σ := Int × (List Int)) (fun s X => VC20_l3 u v K s.1 s.2 X) ((0 : Int), (List.replicate (((v.length : Int) + (1 : Int))).toNat (0 : Int)))))) := h
  refine awl_runp 1 [0, 1, 6] [] (ob := (True ∧ True)) (st' := (⟨95, [(0, [], .v (.c (.p (.sl (.int .u8)) u))), (1, [], .v (.c (.p (.sl (.int .u8)) v))), (6, [], .v (.c (.p (.int .i64) ret18v)))], []⟩ : St)) (by kernel_rfl) ⟨trivial, trivial⟩ ?_
  refine awl_nil ?_
  refine thenQ_n ?_
  refine aw_seq ?_
  refine aw_region ?_
  refine awl_runp 2 [0, 1, 6, 20] [] (ob := (True ∧ True ∧ True)) (st' := (⟨95, [(0, [], .v (.c (.p (.sl (.int .u8)) u))), (1, [], .v (.c (.p (.sl (.int .u8)) v))), (6, [], .v (.c (.p (.int .i64) ret18v))), (20, [], .v (.c (.p .bool (!decide (ret18v = (0 : Int))))))], []⟩ : St)) (by kernel_rfl) ⟨trivial, trivial, trivial⟩ ?_
  refine awl_nil ?_
  refine thenQ_n ?_
  refine aw_cond (b := (!decide (ret18v = (0 : Int)))) (by kernel_rfl) (fun hb => ?_) (fun hb => ?_)
  · have h := h.1 hb
    refine aw_seq ?_
    refine aw_region ?_
    refine awl_runp 3 [4, 5] [] (ob := (True ∧ True ∧ True ∧ True)) (st' := (⟨95, [(4, [], .v (.c (.p (.int .i64) (0 : Int)))), (5, [], .v (.c (.p (.int .i64) ret18v)))], []⟩ : St)) (by kernel_rfl) ⟨trivial, trivial, trivial, trivial⟩ ?_
    refine awl_nil ?_
    refine thenQ_n ?_
    refine aw_ret ?_
    refine thenQ_r ?_
    exact retQ_r (σ := Int × Int) (R := (fun y => [toV1 (.int .i64) y.1, toV1 (.int .i64) y.2])) ((0 : Int), ret18v) (by kernel_rfl) h
  · have h := h.2 hb
    refine aw_skip ?_
    refine thenQ_n ?_
    refine aw_seq ?_
    refine aw_region ?_
    obtain ⟨o1, o2, h⟩ := h
    refine awl_runp 5 [0, 1, 7] [25] (ob := (True ∧ True ∧ InR ((v.length : Int) + (1 : Int)) ∧ room ((v.length : Int) + (1 : Int)) ∧ True ∧ True)) (st' := (⟨95, [(0, [], .v (.c (.p (.sl (.int .u8)) u))), (1, [], .v (.c (.p (.sl (.int .u8)) v))), (7, [], .v (.c (.own 25)))], [(25, [], .arr 3 (.int .i64) (List.replicate (((v.length : Int) + (1 : Int))).toNat (0 : Int)))]⟩ : St)) (by kernel_rfl) ⟨trivial, trivial, o1, o2, trivial, trivial⟩ ?_
    refine awl_nil ?_
    refine thenQ_n ?_
    refine aw_seq ?_
    refine aw_seq ?_
    refine aw_region ?_
    refine awl_runp 3 [0, 1, 7, 27, 28] [25] (ob := (True ∧ True ∧ True ∧ True)) (st' := (⟨95, [(0, [], .v (.c (.p (.sl (.int .u8)) u))), (1, [], .v (.c (.p (.sl (.int .u8)) v))), (7, [], .v (.c (.own 25))), (27, [], .v (.c (.p (.int .i64) ((List.replicate (((v.length : Int) + (1 : Int))).toNat (0 : Int)).length : Int)))), (28, [], .v (.c (.p (.int .i64) (0 : Int))))], [(25, [], .arr 3 (.int .i64) (List.replicate (((v.length : Int) + (1 : Int))).toNat (0 : Int)))]⟩ : St)) (by kernel_rfl) ⟨trivial, trivial, trivial, trivial⟩ ?_
    refine awl_nil ?_
    refine thenQ_n ?_
    refine withJoin (σ := (List Int)) (fun s => (⟨95, [(0, [], .v (.c (.p (.sl (.int .u8)) u))), (1, [], .v (.c (.p (.sl (.int .u8)) v))), (7, [], .v (.c (.own 25)))], [(25, [], .arr 3 (.int .i64) s)]⟩ : St)) (fun s => VC20_k1 u v K s) (fun row h => ?_) (fun rest4 => ?_)
    · have h : VC20_k1 u v K row := h
      unfold VC20_k1 at h
      refine thenQ_n ?_
      refine aw_seq ?_
      refine aw_seq ?_
      refine aw_region ?_
      refine awl_runp 3 [1, 7, 36, 37, 38] [25] (ob := (True ∧ True ∧ True ∧ True)) (st' := (⟨95, [(1, [], .v (.c (.p (.sl (.int .u8)) v))), (7, [], .v (.c (.own 25))), (36, [], .v (.c (.p (.sl (.int .u8)) u))), (37, [], .v (.c (.p (.int .i64) (u.length : Int)))), (38, [], .v (.c (.p (.int .i64) (0 : Int))))], [(25, [], .arr 3 (.int .i64) row)]⟩ : St)) (by kernel_rfl) ⟨trivial, trivial, trivial, trivial⟩ ?_
      refine awl_nil ?_
      refine thenQ_n ?_
      refine withJoin (σ := (List Int)) (fun s => (⟨95, [(1, [], .v (.c (.p (.sl (.int .u8)) v))), (7, [], .v (.c (.own 25)))], [(25, [], .arr 3 (.int .i64) s)]⟩ : St)) (fun s => VC20_k2 v K s) (fun row2 h => ?_) (fun rest1 => ?_)
      · have h : VC20_k2 v K row2 := h
        unfold VC20_k2 at h
        refine thenQ_n ?_
        refine aw_seq ?_
        refine aw_region ?_
        obtain ⟨o1, h⟩ := h
        refine awl_runp 7 [4, 5] [] (ob := (True ∧ True ∧ True ∧ inIdx (v.length : Int) row2.length ∧ True ∧ True ∧ True ∧ True)) (st' := (⟨95, [(4, [], .v (.c (.p (.int .i64) (row2.getD (((v.length : Int)).toNat) (0 : Int))))), (5, [], .v (.c (.p (.int .i64) (0 : Int))))], []⟩ : St)) (by kernel_rfl) ⟨trivial, trivial, trivial, o1, trivial, trivial, trivial, trivial⟩ ?_
        refine awl_nil ?_
        refine thenQ_n ?_
        refine aw_ret ?_
        exact retQ_r (σ := Int × Int) (R := (fun y => [toV1 (.int .i64) y.1, toV1 (.int .i64) y.2])) ((row2.getD (((v.length : Int)).toNat) (0 : Int)), (0 : Int)) (by kernel_rfl) h
      · refine aw_block ?_
        refine aw_loop (σ := Int × (List Int)) (fun s => (⟨95, [(1, [], .v (.c (.p (.sl (.int .u8)) v))), (7, [], .v (.c (.own 25))), (36, [], .v (.c (.p (.sl (.int .u8)) u))), (37, [], .v (.c (.p (.int .i64) (u.length : Int)))), (38, [], .v (.c (.p (.int .i64) s.1)))], [(25, [], .arr 3 (.int .i64) s.2)]⟩ : St)) (fun s X => VC20_l1 u v K s.1 s.2 X) (s0 := ((0 : Int), row)) (fun s X1 h => ?_) h
        obtain ⟨v38, row2⟩ := s
        have h : VC20_l1 u v K v38 row2 X1 := h
        unfold VC20_l1 at h
        refine aw_seq ?_
        refine aw_region ?_
        refine awl_runp 1 [1, 7, 36, 37, 38, 39] [25] (ob := (True ∧ True)) (st' := (⟨95, [(1, [], .v (.c (.p (.sl (.int .u8)) v))), (7, [], .v (.c (.own 25))), (36, [], .v (.c (.p (.sl (.int .u8)) u))), (37, [], .v (.c (.p (.int .i64) (u.length : Int)))), (38, [], .v (.c (.p (.int .i64) v38))), (39, [], .v (.c (.p .bool (decide (v38 < (u.length : Int))))))], [(25, [], .arr 3 (.int .i64) row2)]⟩ : St)) (by kernel_rfl) ⟨trivial, trivial⟩ ?_
        refine awl_nil ?_
        refine thenQ_n ?_
        refine aw_seq ?_
        refine aw_cond (b := (decide (v38 < (u.length : Int)))) (by kernel_rfl) (fun hb => ?_) (fun hb => ?_)
        · have h := h.1 hb
          refine aw_skip ?_
          refine thenQ_n ?_
          refine aw_seq ?_
          refine aw_block ?_
          refine aw_seq ?_
          refine aw_region ?_
          obtain ⟨o1, h⟩ := h
          refine awl_runp 5 [1, 7, 9, 10, 36, 37, 38] [25] (ob := (True ∧ inIdx v38 u.length ∧ True ∧ True ∧ True ∧ True)) (st' := (⟨95, [(1, [], .v (.c (.p (.sl (.int .u8)) v))), (7, [], .v (.c (.own 25))), (9, [], .v (.c (.p (.int .i64) v38))), (10, [], .v (.c (.p (.int .u8) (u.getD (v38).toNat (0 : Int))))), (36, [], .v (.c (.p (.sl (.int .u8)) u))), (37, [], .v (.c (.p (.int .i64) (u.length : Int)))), (38, [], .v (.c (.p (.int .i64) v38)))], [(25, [], .arr 3 (.int .i64) row2)]⟩ : St)) (by kernel_rfl) ⟨trivial, o1, trivial, trivial, trivial, trivial⟩ ?_
          refine awl_nil ?_
          refine thenQ_n ?_
          refine aw_seq ?_
          refine aw_region ?_
          obtain ⟨o1, h⟩ := h
          refine awl_runp 4 [1, 7, 9, 10, 11, 36, 37, 38] [25] (ob := (True ∧ inIdx (0 : Int) row2.length ∧ True ∧ True ∧ True)) (st' := (⟨95, [(1, [], .v (.c (.p (.sl (.int .u8)) v))), (7, [], .v (.c (.own 25))), (9, [], .v (.c (.p (.int .i64) v38))), (10, [], .v (.c (.p (.int .u8) (u.getD (v38).toNat (0 : Int))))), (11, [], .v (.c (.p (.int .i64) (row2.getD (((0 : Int)).toNat) (0 : Int))))), (36, [], .v (.c (.p (.sl (.int .u8)) u))), (37, [], .v (.c (.p (.int .i64) (u.length : Int)))), (38, [], .v (.c (.p (.int .i64) v38)))], [(25, [], .arr 3 (.int .i64) row2)]⟩ : St)) (by kernel_rfl) ⟨trivial, o1, trivial, trivial, trivial⟩ ?_
          refine awl_nil ?_
          refine thenQ_n ?_
          refine aw_seq ?_
          refine aw_region ?_
          obtain ⟨o1, o2, h⟩ := h
          refine awl_runp 5 [1, 7, 10, 11, 36, 37, 38] [25] (ob := (True ∧ True ∧ InR (v38 + (1 : Int)) ∧ inIdx (0 : Int) row2.length ∧ True ∧ True)) (st' := (⟨95, [(1, [], .v (.c (.p (.sl (.int .u8)) v))), (7, [], .v (.c (.own 25))), (10, [], .v (.c (.p (.int .u8) (u.getD (v38).toNat (0 : Int))))), (11, [], .v (.c (.p (.int .i64) (row2.getD (((0 : Int)).toNat) (0 : Int))))), (36, [], .v (.c (.p (.sl (.int .u8)) u))), (37, [], .v (.c (.p (.int .i64) (u.length : Int)))), (38, [], .v (.c (.p (.int .i64) v38)))], [(25, [], .arr 3 (.int .i64) (row2.set (((0 : Int)).toNat) (v38 + (1 : Int))))]⟩ : St)) (by kernel_rfl) ⟨trivial, trivial, o1, o2, trivial, trivial⟩ ?_
          refine awl_nil ?_
          refine thenQ_n ?_
          refine aw_seq ?_
          refine aw_region ?_
          refine awl_runp 3 [1, 7, 10, 11, 36, 37, 38, 50, 51, 52] [25] (ob := (True ∧ True ∧ True ∧ True)) (st' := (⟨95, [(1, [], .v (.c (.p (.sl (.int .u8)) v))), (7, [], .v (.c (.own 25))), (10, [], .v (.c (.p (.int .u8) (u.getD (v38).toNat (0 : Int))))), (11, [], .v (.c (.p (.int .i64) (row2.getD (((0 : Int)).toNat) (0 : Int))))), (36, [], .v (.c (.p (.sl (.int .u8)) u))), (37, [], .v (.c (.p (.int .i64) (u.length : Int)))), (38, [], .v (.c (.p (.int .i64) v38))), (50, [], .v (.c (.p (.sl (.int .u8)) v))), (51, [], .v (.c (.p (.int .i64) (v.length : Int)))), (52, [], .v (.c (.p (.int .i64) (0 : Int))))], [(25, [], .arr 3 (.int .i64) (row2.set (((0 : Int)).toNat) (v38 + (1 : Int))))]⟩ : St)) (by kernel_rfl) ⟨trivial, trivial, trivial, trivial⟩ ?_
          refine awl_nil ?_
          refine thenQ_n ?_
          refine withJoin (σ := (List Int)) (fun s => (⟨95, [(1, [], .v (.c (.p (.sl (.int .u8)) v))), (7, [], .v (.c (.own 25))), (36, [], .v (.c (.p (.sl (.int .u8)) u))), (37, [], .v (.c (.p (.int .i64) (u.length : Int)))), (38, [], .v (.c (.p (.int .i64) v38)))], [(25, [], .arr 3 (.int .i64) s)]⟩ : St)) (fun s => VC20_k3 v38 X1 s) (fun row3 h => ?_) (fun rest2 => ?_)
          · have h : VC20_k3 v38 X1 row3 := h
            unfold VC20_k3 at h
            refine blockQ_n ?_
            refine thenQ_n ?_
            refine aw_region ?_
            obtain ⟨o1, h⟩ := h
            refine awl_runp 2 [1, 7, 36, 37, 38] [25] (ob := (InR (v38 + (1 : Int)) ∧ True ∧ True)) (st' := (⟨95, [(1, [], .v (.c (.p (.sl (.int .u8)) v))), (7, [], .v (.c (.own 25))), (36, [], .v (.c (.p (.sl (.int .u8)) u))), (37, [], .v (.c (.p (.int .i64) (u.length : Int)))), (38, [], .v (.c (.p (.int .i64) (v38 + (1 : Int)))))], [(25, [], .arr 3 (.int .i64) row3)]⟩ : St)) (by kernel_rfl) ⟨o1, trivial, trivial⟩ ?_
            refine awl_nil ?_
            exact thenQ_n ⟨((v38 + (1 : Int)), row3), rfl, h⟩
          · refine aw_block ?_
            refine aw_loop (σ := Int × Int × (List Int)) (fun s => (⟨95, [(1, [], .v (.c (.p (.sl (.int .u8)) v))), (7, [], .v (.c (.own 25))), (10, [], .v (.c (.p (.int .u8) (u.getD (v38).toNat (0 : Int))))), (11, [], .v (.c (.p (.int .i64) s.1))), (36, [], .v (.c (.p (.sl (.int .u8)) u))), (37, [], .v (.c (.p (.int .i64) (u.length : Int)))), (38, [], .v (.c (.p (.int .i64) v38))), (50, [], .v (.c (.p (.sl (.int .u8)) v))), (51, [], .v (.c (.p (.int .i64) (v.length : Int)))), (52, [], .v (.c (.p (.int .i64) s.2.1)))], [(25, [], .arr 3 (.int .i64) s.2.2)]⟩ : St)) (fun s X => VC20_l2 u v v38 X1 s.1 s.2.1 s.2.2 X) (s0 := ((row2.getD (((0 : Int)).toNat) (0 : Int)), (0 : Int), (row2.set (((0 : Int)).toNat) (v38 + (1 : Int))))) (fun s X2 h => ?_) h
            obtain ⟨last, v52, row3⟩ := s
            have h : VC20_l2 u v v38 X1 last v52 row3 X2 := h
            unfold VC20_l2 at h
            refine aw_seq ?_
            refine aw_region ?_
            refine awl_runp 1 [1, 7, 10, 11, 36, 37, 38, 50, 51, 52, 53] [25] (ob := (True ∧ True)) (st' := (⟨95, [(1, [], .v (.c (.p (.sl (.int .u8)) v))), (7, [], .v (.c (.own 25))), (10, [], .v (.c (.p (.int .u8) (u.getD (v38).toNat (0 : Int))))), (11, [], .v (.c (.p (.int .i64) last))), (36, [], .v (.c (.p (.sl (.int .u8)) u))), (37, [], .v (.c (.p (.int .i64) (u.length : Int)))), (38, [], .v (.c (.p (.int .i64) v38))), (50, [], .v (.c (.p (.sl (.int .u8)) v))), (51, [], .v (.c (.p (.int .i64) (v.length : Int)))), (52, [], .v (.c (.p (.int .i64) v52))), (53, [], .v (.c (.p .bool (decide (v52 < (v.length : Int))))))], [(25, [], .arr 3 (.int .i64) row3)]⟩ : St)) (by kernel_rfl) ⟨trivial, trivial⟩ ?_
            refine awl_nil ?_
            refine thenQ_n ?_
            refine aw_seq ?_
            refine aw_cond (b := (decide (v52 < (v.length : Int)))) (by kernel_rfl) (fun hb => ?_) (fun hb => ?_)
            · have h := h.1 hb
              refine aw_skip ?_
              refine thenQ_n ?_
              refine aw_seq ?_
              refine aw_block ?_
              refine aw_seq ?_
              refine aw_region ?_
              obtain ⟨o1, h⟩ := h
              refine awl_runp 5 [1, 7, 10, 11, 12, 13, 36, 37, 38, 50, 51, 52] [25] (ob := (True ∧ inIdx v52 v.length ∧ True ∧ True ∧ True ∧ True)) (st' := (⟨95, [(1, [], .v (.c (.p (.sl (.int .u8)) v))), (7, [], .v (.c (.own 25))), (10, [], .v (.c (.p (.int .u8) (u.getD (v38).toNat (0 : Int))))), (11, [], .v (.c (.p (.int .i64) last))), (12, [], .v (.c (.p (.int .i64) v52))), (13, [], .v (.c (.p (.int .u8) (v.getD (v52).toNat (0 : Int))))), (36, [], .v (.c (.p (.sl (.int .u8)) u))), (37, [], .v (.c (.p (.int .i64) (u.length : Int)))), (38, [], .v (.c (.p (.int .i64) v38))), (50, [], .v (.c (.p (.sl (.int .u8)) v))), (51, [], .v (.c (.p (.int .i64) (v.length : Int)))), (52, [], .v (.c (.p (.int .i64) v52)))], [(25, [], .arr 3 (.int .i64) row3)]⟩ : St)) (by kernel_rfl) ⟨trivial, o1, trivial, trivial, trivial, trivial⟩ ?_
              refine awl_nil ?_
              refine thenQ_n ?_
              refine aw_seq ?_
              refine awd_begin (by kernel_rfl) ?_
              obtain ⟨o1, o2, o3, o4, h⟩ := h
              refine awd_runp (by kernel_rfl) [0, 1, 2, 3, 4, 5, 6, 7, 8, 9, 10, 11] [1, 7, 10, 11, 12, 13, 14, 36, 37, 38, 50, 51, 52] [25] (ob := (True ∧ True ∧ inIdx v52 row3.length ∧ True ∧ True ∧ True ∧ InR (v52 + (1 : Int)) ∧ inIdx (v52 + (1 : Int)) row3.length ∧ True ∧ True ∧ InR ((imin (row3.getD ((v52).toNat) (0 : Int)) (row3.getD (((v52 + (1 : Int))).toNat) (0 : Int))) + (1 : Int)) ∧ True ∧ True)) (done' := [11, 10, 9, 8, 7, 6, 5, 4, 3, 2, 1, 0]) (st' := (⟨95, [(1, [], .v (.c (.p (.sl (.int .u8)) v))), (7, [], .v (.c (.own 25))), (10, [], .v (.c (.p (.int .u8) (u.getD (v38).toNat (0 : Int))))), (11, [], .v (.c (.p (.int .i64) last))), (12, [], .v (.c (.p (.int .i64) v52))), (13, [], .v (.c (.p (.int .u8) (v.getD (v52).toNat (0 : Int))))), (14, [], .v (.c (.p (.int .i64) ((imin (row3.getD ((v52).toNat) (0 : Int)) (row3.getD (((v52 + (1 : Int))).toNat) (0 : Int))) + (1 : Int))))), (36, [], .v (.c (.p (.sl (.int .u8)) u))), (37, [], .v (.c (.p (.int .i64) (u.length : Int)))), (38, [], .v (.c (.p (.int .i64) v38))), (50, [], .v (.c (.p (.sl (.int .u8)) v))), (51, [], .v (.c (.p (.int .i64) (v.length : Int)))), (52, [], .v (.c (.p (.int .i64) v52)))], [(25, [], .arr 3 (.int .i64) row3)]⟩ : St)) (by kernel_rfl) ⟨trivial, trivial, o1, trivial, trivial, trivial, o2, o3, trivial, trivial, o4, trivial, trivial⟩ ?_
              refine awd_done (by kernel_rfl) ?_
              refine thenQ_n ?_
              refine aw_seq ?_
              refine aw_seq ?_
              refine aw_region ?_
              refine awl_runp 3 [1, 7, 10, 11, 12, 14, 36, 37, 38, 50, 51, 52, 70] [25] (ob := (True ∧ True ∧ True ∧ True)) (st' := (⟨95, [(1, [], .v (.c (.p (.sl (.int .u8)) v))), (7, [], .v (.c (.own 25))), (10, [], .v (.c (.p (.int .u8) (u.getD (v38).toNat (0 : Int))))), (11, [], .v (.c (.p (.int .i64) last))), (12, [], .v (.c (.p (.int .i64) v52))), (14, [], .v (.c (.p (.int .i64) ((imin (row3.getD ((v52).toNat) (0 : Int)) (row3.getD (((v52 + (1 : Int))).toNat) (0 : Int))) + (1 : Int))))), (36, [], .v (.c (.p (.sl (.int .u8)) u))), (37, [], .v (.c (.p (.int .i64) (u.length : Int)))), (38, [], .v (.c (.p (.int .i64) v38))), (50, [], .v (.c (.p (.sl (.int .u8)) v))), (51, [], .v (.c (.p (.int .i64) (v.length : Int)))), (52, [], .v (.c (.p (.int .i64) v52))), (70, [], .v (.c (.p .bool (decide ((u.getD (v38).toNat (0 : Int)) = (v.getD (v52).toNat (0 : Int)))))))], [(25, [], .arr 3 (.int .i64) row3)]⟩ : St)) (by kernel_rfl) ⟨trivial, trivial, trivial, trivial⟩ ?_
              refine awl_nil ?_
              refine thenQ_n ?_
              refine withJoin (σ := Int) (fun s => (⟨95, [(1, [], .v (.c (.p (.sl (.int .u8)) v))), (7, [], .v (.c (.own 25))), (10, [], .v (.c (.p (.int .u8) (u.getD (v38).toNat (0 : Int))))), (12, [], .v (.c (.p (.int .i64) v52))), (14, [], .v (.c (.p (.int .i64) s))), (36, [], .v (.c (.p (.sl (.int .u8)) u))), (37, [], .v (.c (.p (.int .i64) (u.length : Int)))), (38, [], .v (.c (.p (.int .i64) v38))), (50, [], .v (.c (.p (.sl (.int .u8)) v))), (51, [], .v (.c (.p (.int .i64) (v.length : Int)))), (52, [], .v (.c (.p (.int .i64) v52)))], [(25, [], .arr 3 (.int .i64) row3)]⟩ : St)) (fun s => VC20_k4 v52 row3 X2 s) (fun best h => ?_) (fun rest3 => ?_)
              · have h : VC20_k4 v52 row3 X2 best := h
                unfold VC20_k4 at h
                refine thenQ_n ?_
                refine aw_seq ?_
                refine aw_region ?_
                obtain ⟨o1, o2, h⟩ := h
                refine awl_runp 6 [1, 7, 10, 11, 12, 14, 36, 37, 38, 50, 51, 52] [25] (ob := (True ∧ True ∧ InR (v52 + (1 : Int)) ∧ inIdx (v52 + (1 : Int)) row3.length ∧ True ∧ True ∧ True)) (st' := (⟨95, [(1, [], .v (.c (.p (.sl (.int .u8)) v))), (7, [], .v (.c (.own 25))), (10, [], .v (.c (.p (.int .u8) (u.getD (v38).toNat (0 : Int))))), (11, [], .v (.c (.p (.int .i64) (row3.getD (((v52 + (1 : Int))).toNat) (0 : Int))))), (12, [], .v (.c (.p (.int .i64) v52))), (14, [], .v (.c (.p (.int .i64) best))), (36, [], .v (.c (.p (.sl (.int .u8)) u))), (37, [], .v (.c (.p (.int .i64) (u.length : Int)))), (38, [], .v (.c (.p (.int .i64) v38))), (50, [], .v (.c (.p (.sl (.int .u8)) v))), (51, [], .v (.c (.p (.int .i64) (v.length : Int)))), (52, [], .v (.c (.p (.int .i64) v52)))], [(25, [], .arr 3 (.int .i64) row3)]⟩ : St)) (by kernel_rfl) ⟨trivial, trivial, o1, o2, trivial, trivial, trivial⟩ ?_
                refine awl_nil ?_
                refine thenQ_n ?_
                refine aw_region ?_
                obtain ⟨o1, o2, h⟩ := h
                refine awl_runp 6 [1, 7, 10, 11, 36, 37, 38, 50, 51, 52] [25] (ob := (True ∧ True ∧ InR (v52 + (1 : Int)) ∧ True ∧ inIdx (v52 + (1 : Int)) row3.length ∧ True ∧ True)) (st' := (⟨95, [(1, [], .v (.c (.p (.sl (.int .u8)) v))), (7, [], .v (.c (.own 25))), (10, [], .v (.c (.p (.int .u8) (u.getD (v38).toNat (0 : Int))))), (11, [], .v (.c (.p (.int .i64) (row3.getD (((v52 + (1 : Int))).toNat) (0 : Int))))), (36, [], .v (.c (.p (.sl (.int .u8)) u))), (37, [], .v (.c (.p (.int .i64) (u.length : Int)))), (38, [], .v (.c (.p (.int .i64) v38))), (50, [], .v (.c (.p (.sl (.int .u8)) v))), (51, [], .v (.c (.p (.int .i64) (v.length : Int)))), (52, [], .v (.c (.p (.int .i64) v52)))], [(25, [], .arr 3 (.int .i64) (row3.set (((v52 + (1 : Int))).toNat) best))]⟩ : St)) (by kernel_rfl) ⟨trivial, trivial, o1, trivial, o2, trivial, trivial⟩ ?_
                refine awl_nil ?_
                refine blockQ_n ?_
                refine thenQ_n ?_
                refine aw_region ?_
                obtain ⟨o1, h⟩ := h
                refine awl_runp 2 [1, 7, 10, 11, 36, 37, 38, 50, 51, 52] [25] (ob := (InR (v52 + (1 : Int)) ∧ True ∧ True)) (st' := (⟨95, [(1, [], .v (.c (.p (.sl (.int .u8)) v))), (7, [], .v (.c (.own 25))), (10, [], .v (.c (.p (.int .u8) (u.getD (v38).toNat (0 : Int))))), (11, [], .v (.c (.p (.int .i64) (row3.getD (((v52 + (1 : Int))).toNat) (0 : Int))))), (36, [], .v (.c (.p (.sl (.int .u8)) u))), (37, [], .v (.c (.p (.int .i64) (u.length : Int)))), (38, [], .v (.c (.p (.int .i64) v38))), (50, [], .v (.c (.p (.sl (.int .u8)) v))), (51, [], .v (.c (.p (.int .i64) (v.length : Int)))), (52, [], .v (.c (.p (.int .i64) (v52 + (1 : Int)))))], [(25, [], .arr 3 (.int .i64) (row3.set (((v52 + (1 : Int))).toNat) best))]⟩ : St)) (by kernel_rfl) ⟨o1, trivial, trivial⟩ ?_
                refine awl_nil ?_
                exact thenQ_n ⟨((row3.getD (((v52 + (1 : Int))).toNat) (0 : Int)), (v52 + (1 : Int)), (row3.set (((v52 + (1 : Int))).toNat) best)), rfl, h⟩
              · refine aw_cond (b := (decide ((u.getD (v38).toNat (0 : Int)) = (v.getD (v52).toNat (0 : Int))))) (by kernel_rfl) (fun hb => ?_) (fun hb => ?_)
                · have h := h.1 hb
                  refine aw_region ?_
                  refine awl_runp 4 [1, 7, 10, 12, 14, 36, 37, 38, 50, 51, 52] [25] (ob := (True ∧ True ∧ True ∧ True ∧ True)) (st' := (⟨95, [(1, [], .v (.c (.p (.sl (.int .u8)) v))), (7, [], .v (.c (.own 25))), (10, [], .v (.c (.p (.int .u8) (u.getD (v38).toNat (0 : Int))))), (12, [], .v (.c (.p (.int .i64) v52))), (14, [], .v (.c (.p (.int .i64) (imin ((imin (row3.getD ((v52).toNat) (0 : Int)) (row3.getD (((v52 + (1 : Int))).toNat) (0 : Int))) + (1 : Int)) last)))), (36, [], .v (.c (.p (.sl (.int .u8)) u))), (37, [], .v (.c (.p (.int .i64) (u.length : Int)))), (38, [], .v (.c (.p (.int .i64) v38))), (50, [], .v (.c (.p (.sl (.int .u8)) v))), (51, [], .v (.c (.p (.int .i64) (v.length : Int)))), (52, [], .v (.c (.p (.int .i64) v52)))], [(25, [], .arr 3 (.int .i64) row3)]⟩ : St)) (by kernel_rfl) ⟨trivial, trivial, trivial, trivial, trivial⟩ ?_
                  refine awl_nil ?_
                  exact rest3 (imin ((imin (row3.getD ((v52).toNat) (0 : Int)) (row3.getD (((v52 + (1 : Int))).toNat) (0 : Int))) + (1 : Int)) last) h
                · have h := h.2 hb
                  refine aw_region ?_
                  obtain ⟨o1, h⟩ := h
                  refine awl_runp 5 [1, 7, 10, 12, 14, 36, 37, 38, 50, 51, 52] [25] (ob := (True ∧ True ∧ InR (last + (1 : Int)) ∧ True ∧ True ∧ True)) (st' := (⟨95, [(1, [], .v (.c (.p (.sl (.int .u8)) v))), (7, [], .v (.c (.own 25))), (10, [], .v (.c (.p (.int .u8) (u.getD (v38).toNat (0 : Int))))), (12, [], .v (.c (.p (.int .i64) v52))), (14, [], .v (.c (.p (.int .i64) (imin ((imin (row3.getD ((v52).toNat) (0 : Int)) (row3.getD (((v52 + (1 : Int))).toNat) (0 : Int))) + (1 : Int)) (last + (1 : Int)))))), (36, [], .v (.c (.p (.sl (.int .u8)) u))), (37, [], .v (.c (.p (.int .i64) (u.length : Int)))), (38, [], .v (.c (.p (.int .i64) v38))), (50, [], .v (.c (.p (.sl (.int .u8)) v))), (51, [], .v (.c (.p (.int .i64) (v.length : Int)))), (52, [], .v (.c (.p (.int .i64) v52)))], [(25, [], .arr 3 (.int .i64) row3)]⟩ : St)) (by kernel_rfl) ⟨trivial, trivial, o1, trivial, trivial, trivial⟩ ?_
                  refine awl_nil ?_
                  exact rest3 (imin ((imin (row3.getD ((v52).toNat) (0 : Int)) (row3.getD (((v52 + (1 : Int))).toNat) (0 : Int))) + (1 : Int)) (last + (1 : Int))) h
            · have h := h.2 hb
              refine aw_conv [.prune [1, 7, 36, 37, 38] [25]] (st' := (⟨95, [(1, [], .v (.c (.p (.sl (.int .u8)) v))), (7, [], .v (.c (.own 25))), (36, [], .v (.c (.p (.sl (.int .u8)) u))), (37, [], .v (.c (.p (.int .i64) (u.length : Int)))), (38, [], .v (.c (.p (.int .i64) v38)))], [(25, [], .arr 3 (.int .i64) row3)]⟩ : St)) (by kernel_rfl) ?_
              refine aw_exit ?_
              refine thenQ_x ?_
              refine thenQ_x ?_
              refine blockQ_hit ?_
              exact rest2 row3 h
        · have h := h.2 hb
          refine aw_conv [.prune [1, 7] [25]] (st' := (⟨95, [(1, [], .v (.c (.p (.sl (.int .u8)) v))), (7, [], .v (.c (.own 25)))], [(25, [], .arr 3 (.int .i64) row2)]⟩ : St)) (by kernel_rfl) ?_
          refine aw_exit ?_
          refine thenQ_x ?_
          refine thenQ_x ?_
          refine blockQ_hit ?_
          exact rest1 row2 h
    · refine aw_block ?_
      refine aw_loop (σ := Int × (List Int)) (fun s => (⟨95, [(0, [], .v (.c (.p (.sl (.int .u8)) u))), (1, [], .v (.c (.p (.sl (.int .u8)) v))), (7, [], .v (.c (.own 25))), (27, [], .v (.c (.p (.int .i64) ((List.replicate (((v.length : Int) + (1 : Int))).toNat (0 : Int)).length : Int)))), (28, [], .v (.c (.p (.int .i64) s.1)))], [(25, [], .arr 3 (.int .i64) s.2)]⟩ : St)) (fun s X => VC20_l3 u v K s.1 s.2 X) (s0 := ((0 : Int), (List.replicate (((v.length : Int) + (1 : Int))).toNat (0 : Int)))) (fun s X3 h => ?_) h
      obtain ⟨v28, row⟩ := s
      have h : VC20_l3 u v K v28 row X3 := h
      unfold VC20_l3 at h
      refine aw_seq ?_
      refine aw_region ?_
      refine awl_runp 1 [0, 1, 7, 27, 28, 29] [25] (ob := (True ∧ True)) (st' := (⟨95, [(0, [], .v (.c (.p (.sl (.int .u8)) u))), (1, [], .v (.c (.p (.sl (.int .u8)) v))), (7, [], .v (.c (.own 25))), (27, [], .v (.c (.p (.int .i64) ((List.replicate (((v.length : Int) + (1 : Int))).toNat (0 : Int)).length : Int)))), (28, [], .v (.c (.p (.int .i64) v28))), (29, [], .v (.c (.p .bool (decide (v28 < ((List.replicate (((v.length : Int) + (1 : Int))).toNat (0 : Int)).length : Int))))))], [(25, [], .arr 3 (.int .i64) row)]⟩ : St)) (by kernel_rfl) ⟨trivial, trivial⟩ ?_
      refine awl_nil ?_
      refine thenQ_n ?_
      refine aw_seq ?_
      refine aw_cond (b := (decide (v28 < ((List.replicate (((v.length : Int) + (1 : Int))).toNat (0 : Int)).length : Int)))) (by kernel_rfl) (fun hb => ?_) (fun hb => ?_)
      · have h := h.1 hb
        refine aw_skip ?_
        refine thenQ_n ?_
        refine aw_seq ?_
        refine aw_block ?_
        refine aw_seq ?_
        refine aw_region ?_
        refine awl_runp 2 [0, 1, 7, 8, 27, 28] [25] (ob := (True ∧ True ∧ True)) (st' := (⟨95, [(0, [], .v (.c (.p (.sl (.int .u8)) u))), (1, [], .v (.c (.p (.sl (.int .u8)) v))), (7, [], .v (.c (.own 25))), (8, [], .v (.c (.p (.int .i64) v28))), (27, [], .v (.c (.p (.int .i64) ((List.replicate (((v.length : Int) + (1 : Int))).toNat (0 : Int)).length : Int)))), (28, [], .v (.c (.p (.int .i64) v28)))], [(25, [], .arr 3 (.int .i64) row)]⟩ : St)) (by kernel_rfl) ⟨trivial, trivial, trivial⟩ ?_
        refine awl_nil ?_
        refine thenQ_n ?_
        refine aw_region ?_
        obtain ⟨o1, h⟩ := h
        refine awl_runp 5 [0, 1, 7, 27, 28] [25] (ob := (True ∧ True ∧ True ∧ inIdx v28 row.length ∧ True ∧ True)) (st' := (⟨95, [(0, [], .v (.c (.p (.sl (.int .u8)) u))), (1, [], .v (.c (.p (.sl (.int .u8)) v))), (7, [], .v (.c (.own 25))), (27, [], .v (.c (.p (.int .i64) ((List.replicate (((v.length : Int) + (1 : Int))).toNat (0 : Int)).length : Int)))), (28, [], .v (.c (.p (.int .i64) v28)))], [(25, [], .arr 3 (.int .i64) (row.set ((v28).toNat) v28))]⟩ : St)) (by kernel_rfl) ⟨trivial, trivial, trivial, o1, trivial, trivial⟩ ?_
        refine awl_nil ?_
        refine blockQ_n ?_
        refine thenQ_n ?_
        refine aw_region ?_
        obtain ⟨o1, h⟩ := h
        refine awl_runp 2 [0, 1, 7, 27, 28] [25] (ob := (InR (v28 + (1 : Int)) ∧ True ∧ True)) (st' := (⟨95, [(0, [], .v (.c (.p (.sl (.int .u8)) u))), (1, [], .v (.c (.p (.sl (.int .u8)) v))), (7, [], .v (.c (.own 25))), (27, [], .v (.c (.p (.int .i64) ((List.replicate (((v.length : Int) + (1 : Int))).toNat (0 : Int)).length : Int)))), (28, [], .v (.c (.p (.int .i64) (v28 + (1 : Int)))))], [(25, [], .arr 3 (.int .i64) (row.set ((v28).toNat) v28))]⟩ : St)) (by kernel_rfl) ⟨o1, trivial, trivial⟩ ?_
        refine awl_nil ?_
        exact thenQ_n ⟨((v28 + (1 : Int)), (row.set ((v28).toNat) v28)), rfl, h⟩
      · have h := h.2 hb
        refine aw_conv [.prune [0, 1, 7] [25]] (st' := (⟨95, [(0, [], .v (.c (.p (.sl (.int .u8)) u))), (1, [], .v (.c (.p (.sl (.int .u8)) v))), (7, [], .v (.c (.own 25)))], [(25, [], .arr 3 (.int .i64) row)]⟩ : St)) (by kernel_rfl) ?_
        refine aw_exit ?_
        refine thenQ_x ?_
        refine thenQ_x ?_
        refine blockQ_hit ?_
        exact rest4 row h

-- coppicer/coppicerkeep.EditMetric
def VC5 (u : (List Int)) (v : (List Int)) (x : (List Int)) (K : Bool → Prop) : Prop :=
  VC20 u v (fun (ret19v : Int × Int) => VC16 [u, v] (fun (ret25v : Bool) => ((ret25v = true → K (!decide (ret19v.2 = (0 : Int)))) ∧ (ret25v = false → VC16 [x] (fun (ret30v : Bool) => ((ret30v = true → K (decide (ret19v.2 = (0 : Int)))) ∧ (ret30v = false → VC20 v u (fun (ret36v : Int × Int) => VC20 v x (fun (ret42v : Int × Int) => VC20 u x (fun (ret48v : Int × Int) => gcall (α := Bool) (!(((((!decide (ret19v.2 = (0 : Int))) || (!decide (ret36v.2 = (0 : Int)))) || (!decide (ret42v.2 = (0 : Int)))) || (!decide (ret48v.2 = (0 : Int)))) || (!decide (ret19v.1 = ret36v.1)))) (VC21 u v) false (fun (ret75v : Bool) => ((((((((!decide (ret19v.2 = (0 : Int))) || (!decide (ret36v.2 = (0 : Int)))) || (!decide (ret42v.2 = (0 : Int)))) || (!decide (ret48v.2 = (0 : Int)))) || (!decide (ret19v.1 = ret36v.1))) || ((decide (ret19v.1 = (0 : Int))) != ret75v)) = false → InR (ret19v.1 + ret42v.1)) ∧ (((((((((!decide (ret19v.2 = (0 : Int))) || (!decide (ret36v.2 = (0 : Int)))) || (!decide (ret42v.2 = (0 : Int)))) || (!decide (ret48v.2 = (0 : Int)))) || (!decide (ret19v.1 = ret36v.1))) || ((decide (ret19v.1 = (0 : Int))) != ret75v)) || (decide ((ret19v.1 + ret42v.1) < ret48v.1))) = true → K false) ∧ ((((((((!decide (ret19v.2 = (0 : Int))) || (!decide (ret36v.2 = (0 : Int)))) || (!decide (ret42v.2 = (0 : Int)))) || (!decide (ret48v.2 = (0 : Int)))) || (!decide (ret19v.1 = ret36v.1))) || ((decide (ret19v.1 = (0 : Int))) != ret75v)) || (decide ((ret19v.1 + ret42v.1) < ret48v.1))) = false → VC22 x u (fun (ret88v : (List Int)) => VC22 x v (fun (ret91v : (List Int)) => VC20 ret88v ret91v (fun (ret92v : Int × Int) => K ((!decide (ret92v.2 = (0 : Int))) || (decide (ret92v.1 = ret19v.1))))))))))))))))))))

set_option maxHeartbeats 4000000 in
theorem link5 (u : (List Int)) (v : (List Int)) (x : (List Int)) (K : Bool → Prop) (h : VC5 u v x K) : ACalls Try.prog 5 [toV1 (.sl (.int .u8)) u, toV1 (.sl (.int .u8)) v, toV1 (.sl (.int .u8)) x] (fun res => ∃ y, res = (fun y => [toV1 .bool y]) y ∧ K y) := by
  refine acalls_of_aw [.bool] [6] Try.func5 rfl rfl rfl ?_
  unfold VC5 at h
  refine aw_seq ?_
  refine aw_region ?_
  refine awl_runp 1 [0, 1, 2] [] (ob := (True ∧ True)) (st' := (⟨102, [(0, [], .v (.c (.p (.sl (.int .u8)) u))), (1, [], .v (.c (.p (.sl (.int .u8)) v))), (2, [], .v (.c (.p (.sl (.int .u8)) x)))], []⟩ : St)) (by kernel_rfl) ⟨trivial, trivial⟩ ?_
  refine awl_nil ?_
  refine thenQ_n ?_
  refine aw_seq ?_
  refine aw_region ?_
  refine awl_runp 2 [0, 1, 2, 17, 18] [] (ob := (True ∧ True ∧ True)) (st' := (⟨102, [(0, [], .v (.c (.p (.sl (.int .u8)) u))), (1, [], .v (.c (.p (.sl (.int .u8)) v))), (2, [], .v (.c (.p (.sl (.int .u8)) x))), (17, [], .v (.c (.p (.sl (.int .u8)) u))), (18, [], .v (.c (.p (.sl (.int .u8)) v)))], []⟩ : St)) (by kernel_rfl) ⟨trivial, trivial, trivial⟩ ?_
  refine awl_callk (p := []) (l := [toV1 (.sl (.int .u8)) u, toV1 (.sl (.int .u8)) v]) false [(.sl (.int .u8)), (.sl (.int .u8))] [0, 1, 2, 19] [] (fun (ret19v : Int × Int) => VC16 [u, v] (fun (ret25v : Bool) => ((ret25v = true → K (!decide (ret19v.2 = (0 : Int)))) ∧ (ret25v = false → VC16 [x] (fun (ret30v : Bool) => ((ret30v = true → K (decide (ret19v.2 = (0 : Int)))) ∧ (ret30v = false → VC20 v u (fun (ret36v : Int × Int) => VC20 v x (fun (ret42v : Int × Int) => VC20 u x (fun (ret48v : Int × Int) => gcall (α := Bool) (!(((((!decide (ret19v.2 = (0 : Int))) || (!decide (ret36v.2 = (0 : Int)))) || (!decide (ret42v.2 = (0 : Int)))) || (!decide (ret48v.2 = (0 : Int)))) || (!decide (ret19v.1 = ret36v.1)))) (VC21 u v) false (fun (ret75v : Bool) => ((((((((!decide (ret19v.2 = (0 : Int))) || (!decide (ret36v.2 = (0 : Int)))) || (!decide (ret42v.2 = (0 : Int)))) || (!decide (ret48v.2 = (0 : Int)))) || (!decide (ret19v.1 = ret36v.1))) || ((decide (ret19v.1 = (0 : Int))) != ret75v)) = false → InR (ret19v.1 + ret42v.1)) ∧ (((((((((!decide (ret19v.2 = (0 : Int))) || (!decide (ret36v.2 = (0 : Int)))) || (!decide (ret42v.2 = (0 : Int)))) || (!decide (ret48v.2 = (0 : Int)))) || (!decide (ret19v.1 = ret36v.1))) || ((decide (ret19v.1 = (0 : Int))) != ret75v)) || (decide ((ret19v.1 + ret42v.1) < ret48v.1))) = true → K false) ∧ ((((((((!decide (ret19v.2 = (0 : Int))) || (!decide (ret36v.2 = (0 : Int)))) || (!decide (ret42v.2 = (0 : Int)))) || (!decide (ret48v.2 = (0 : Int)))) || (!decide (ret19v.1 = ret36v.1))) || ((decide (ret19v.1 = (0 : Int))) != ret75v)) || (decide ((ret19v.1 + ret42v.1) < ret48v.1))) = false → VC22 x u (fun (ret88v : (List Int)) => VC22 x v (fun (ret91v : (List Int)) => VC20 ret88v ret91v (fun (ret92v : Int × Int) => K ((!decide (ret92v.2 = (0 : Int))) || (decide (ret92v.1 = ret19v.1)))))))))))))))))))) (fun ret19v => [toV1 (.int .i64) ret19v.1, toV1 (.int .i64) ret19v.2]) (fun ret19v => (⟨102, [(0, [], .v (.c (.p (.sl (.int .u8)) u))), (1, [], .v (.c (.p (.sl (.int .u8)) v))), (2, [], .v (.c (.p (.sl (.int .u8)) x))), (19, [], .tup [.c (.p (.int .i64) ret19v.1), .c (.p (.int .i64) ret19v.2)])], []⟩ : St)) (by kernel_rfl) rfl (by kernel_rfl) rfl rfl Try.call20 (by kernel_rfl) (fun ret19v => by kernel_rfl) (fun e => by cases e) (fun hg => link20 u v _ h) (fun hg => noF hg) (fun ret19v h => ?_)
  have h : VC16 [u, v] (fun (ret25v : Bool) => ((ret25v = true → K (!decide (ret19v.2 = (0 : Int)))) ∧ (ret25v = false → VC16 [x] (fun (ret30v : Bool) => ((ret30v = true → K (decide (ret19v.2 = (0 : Int)))) ∧ (ret30v = false → VC20 v u (fun (ret36v : Int × Int) => VC20 v x (fun (ret42v : Int × Int) => VC20 u x (fun (ret48v : Int × Int) => gcall (α := Bool) (!(((((!decide (ret19v.2 = (0 : Int))) || (!decide (ret36v.2 = (0 : Int)))) || (!decide (ret42v.2 = (0 : Int)))) || (!decide (ret48v.2 = (0 : Int)))) || (!decide (ret19v.1 = ret36v.1)))) (VC21 u v) false (fun (ret75v : Bool) => ((((((((!decide (ret19v.2 = (0 : Int))) || (!decide (ret36v.2 = (0 : Int)))) || (!decide (ret42v.2 = (0 : Int)))) || (!decide (ret48v.2 = (0 : Int)))) || (!decide (ret19v.1 = ret36v.1))) || ((decide (ret19v.1 = (0 : Int))) != ret75v)) = false → InR (ret19v.1 + ret42v.1)) ∧ (((((((((!decide (ret19v.2 = (0 : Int))) || (!decide (ret36v.2 = (0 : Int)))) || (!decide (ret42v.2 = (0 : Int)))) || (!decide (ret48v.2 = (0 : Int)))) || (!decide (ret19v.1 = ret36v.1))) || ((decide (ret19v.1 = (0 : Int))) != ret75v)) || (decide ((ret19v.1 + ret42v.1) < ret48v.1))) = true → K false) ∧ ((((((((!decide (ret19v.2 = (0 : Int))) || (!decide (ret36v.2 = (0 : Int)))) || (!decide (ret42v.2 = (0 : Int)))) || (!decide (ret48v.2 = (0 : Int)))) || (!decide (ret19v.1 = ret36v.1))) || ((decide (ret19v.1 = (0 : Int))) != ret75v)) || (decide ((ret19v.1 + ret42v.1) < ret48v.1))) = false → VC22 x u (fun (ret88v : (List Int)) => VC22 x v (fun (ret91v : (List Int)) => VC20 ret88v ret91v (fun (ret92v : Int × Int) => K ((!decide (ret92v.2 = (0 : Int))) || (decide (ret92v.1 = ret19v.1))))))))))))))))))) := h
  refine awl_runp 5 [0, 1, 2, 7, 8] [] (ob := (True ∧ True ∧ True ∧ True ∧ True ∧ True)) (st' := (⟨102, [(0, [], .v (.c (.p (.sl (.int .u8)) u))), (1, [], .v (.c (.p (.sl (.int .u8)) v))), (2, [], .v (.c (.p (.sl (.int .u8)) x))), (7, [], .v (.c (.p (.int .i64) ret19v.1))), (8, [], .v (.c (.p (.int .i64) ret19v.2)))], []⟩ : St)) (by kernel_rfl) ⟨trivial, trivial, trivial, trivial, trivial, trivial⟩ ?_
  refine awl_nil ?_
  refine thenQ_n ?_
  refine aw_seq ?_
  refine aw_seq ?_
  refine aw_region ?_
  refine awl_runp 3 [0, 1, 2, 7, 8, 24] [24] (ob := (True ∧ True ∧ True ∧ True)) (st' := (⟨102, [(0, [], .v (.c (.p (.sl (.int .u8)) u))), (1, [], .v (.c (.p (.sl (.int .u8)) v))), (2, [], .v (.c (.p (.sl (.int .u8)) x))), (7, [], .v (.c (.p (.int .i64) ret19v.1))), (8, [], .v (.c (.p (.int .i64) ret19v.2))), (24, [], .v (.c (.own 24)))], [(24, [], .arr 22 (.sl (.int .u8)) [u, v])]⟩ : St)) (by kernel_rfl) ⟨trivial, trivial, trivial, trivial⟩ ?_
  refine awl_callk (p := []) (l := [toV1 (.sl (.sl (.int .u8))) [u, v]]) true [(.sl (.sl (.int .u8)))] [0, 1, 2, 7, 8, 25] [] (fun (ret25v : Bool) => ((ret25v = true → K (!decide (ret19v.2 = (0 : Int)))) ∧ (ret25v = false → VC16 [x] (fun (ret30v : Bool) => ((ret30v = true → K (decide (ret19v.2 = (0 : Int)))) ∧ (ret30v = false → VC20 v u (fun (ret36v : Int × Int) => VC20 v x (fun (ret42v : Int × Int) => VC20 u x (fun (ret48v : Int × Int) => gcall (α := Bool) (!(((((!decide (ret19v.2 = (0 : Int))) || (!decide (ret36v.2 = (0 : Int)))) || (!decide (ret42v.2 = (0 : Int)))) || (!decide (ret48v.2 = (0 : Int)))) || (!decide (ret19v.1 = ret36v.1)))) (VC21 u v) false (fun (ret75v : Bool) => ((((((((!decide (ret19v.2 = (0 : Int))) || (!decide (ret36v.2 = (0 : Int)))) || (!decide (ret42v.2 = (0 : Int)))) || (!decide (ret48v.2 = (0 : Int)))) || (!decide (ret19v.1 = ret36v.1))) || ((decide (ret19v.1 = (0 : Int))) != ret75v)) = false → InR (ret19v.1 + ret42v.1)) ∧ (((((((((!decide (ret19v.2 = (0 : Int))) || (!decide (ret36v.2 = (0 : Int)))) || (!decide (ret42v.2 = (0 : Int)))) || (!decide (ret48v.2 = (0 : Int)))) || (!decide (ret19v.1 = ret36v.1))) || ((decide (ret19v.1 = (0 : Int))) != ret75v)) || (decide ((ret19v.1 + ret42v.1) < ret48v.1))) = true → K false) ∧ ((((((((!decide (ret19v.2 = (0 : Int))) || (!decide (ret36v.2 = (0 : Int)))) || (!decide (ret42v.2 = (0 : Int)))) || (!decide (ret48v.2 = (0 : Int)))) || (!decide (ret19v.1 = ret36v.1))) || ((decide (ret19v.1 = (0 : Int))) != ret75v)) || (decide ((ret19v.1 + ret42v.1) < ret48v.1))) = false → VC22 x u (fun (ret88v : (List Int)) => VC22 x v (fun (ret91v : (List Int)) => VC20 ret88v ret91v (fun (ret92v : Int × Int) => K ((!decide (ret92v.2 = (0 : Int))) || (decide (ret92v.1 = ret19v.1))))))))))))))))))) (fun ret25v => [toV1 .bool ret25v]) (fun ret25v => (⟨102, [(0, [], .v (.c (.p (.sl (.int .u8)) u))), (1, [], .v (.c (.p (.sl (.int .u8)) v))), (2, [], .v (.c (.p (.sl (.int .u8)) x))), (7, [], .v (.c (.p (.int .i64) ret19v.1))), (8, [], .v (.c (.p (.int .i64) ret19v.2))), (25, [], .v (.c (.p .bool ret25v)))], []⟩ : St)) (by kernel_rfl) rfl (by kernel_rfl) rfl rfl Try.call16 (by kernel_rfl) (fun ret25v => by kernel_rfl) (fun _ _ => rfl) (fun hg => link16 [u, v] _ h) (fun hg => noF hg) (fun ret25v h => ?_)
  have h : ((ret25v = true → K (!decide (ret19v.2 = (0 : Int)))) ∧ (ret25v = false → VC16 [x] (fun (ret30v : Bool) => ((ret30v = true → K (decide (ret19v.2 = (0 : Int)))) ∧ (ret30v = false → VC20 v u (fun (ret36v : Int × Int) => VC20 v x (fun (ret42v : Int × Int) => VC20 u x (fun (ret48v : Int × Int) => gcall (α := Bool) (!(((((!decide (ret19v.2 = (0 : Int))) || (!decide (ret36v.2 = (0 : Int)))) || (!decide (ret42v.2 = (0 : Int)))) || (!decide (ret48v.2 = (0 : Int)))) || (!decide (ret19v.1 = ret36v.1)))) (VC21 u v) false (fun (ret75v : Bool) => ((((((((!decide (ret19v.2 = (0 : Int))) || (!decide (ret36v.2 = (0 : Int)))) || (!decide (ret42v.2 = (0 : Int)))) || (!decide (ret48v.2 = (0 : Int)))) || (!decide (ret19v.1 = ret36v.1))) || ((decide (ret19v.1 = (0 : Int))) != ret75v)) = false → InR (ret19v.1 + ret42v.1)) ∧ (((((((((!decide (ret19v.2 = (0 : Int))) || (!decide (ret36v.2 = (0 : Int)))) || (!decide (ret42v.2 = (0 : Int)))) || (!decide (ret48v.2 = (0 : Int)))) || (!decide (ret19v.1 = ret36v.1))) || ((decide (ret19v.1 = (0 : Int))) != ret75v)) || (decide ((ret19v.1 + ret42v.1) < ret48v.1))) = true → K false) ∧ ((((((((!decide (ret19v.2 = (0 : Int))) || (!decide (ret36v.2 = (0 : Int)))) || (!decide (ret42v.2 = (0 : Int)))) || (!decide (ret48v.2 = (0 : Int)))) || (!decide (ret19v.1 = ret36v.1))) || ((decide (ret19v.1 = (0 : Int))) != ret75v)) || (decide ((ret19v.1 + ret42v.1) < ret48v.1))) = false → VC22 x u (fun (ret88v : (List Int)) => VC22 x v (fun (ret91v : (List Int)) => VC20 ret88v ret91v (fun (ret92v : Int × Int) => K ((!decide (ret92v.2 = (0 : Int))) || (decide (ret92v.1 = ret19v.1)))))))))))))))))) := h
  refine awl_nil ?_
  refine thenQ_n ?_
  refine aw_cond (b := ret25v) (by kernel_rfl) (fun hb => ?_) (fun hb => ?_)
  · have h := h.1 hb
    refine aw_seq ?_
    refine aw_region ?_
    refine awl_runp 3 [6] [] (ob := (True ∧ True ∧ True ∧ True)) (st' := (⟨102, [(6, [], .v (.c (.p .bool (!decide (ret19v.2 = (0 : Int))))))], []⟩ : St)) (by kernel_rfl) ⟨trivial, trivial, trivial, trivial⟩ ?_
    refine awl_nil ?_
    refine thenQ_n ?_
    refine aw_ret ?_
    refine thenQ_r ?_
    exact retQ_r (σ := Bool) (R := (fun y => [toV1 .bool y])) (!decide (ret19v.2 = (0 : Int))) (by kernel_rfl) h
  · have h := h.2 hb
    refine aw_skip ?_
    refine thenQ_n ?_
    refine aw_seq ?_
    refine aw_seq ?_
    refine aw_region ?_
    refine awl_runp 2 [0, 1, 2, 7, 8, 29] [29] (ob := (True ∧ True ∧ True)) (st' := (⟨102, [(0, [], .v (.c (.p (.sl (.int .u8)) u))), (1, [], .v (.c (.p (.sl (.int .u8)) v))), (2, [], .v (.c (.p (.sl (.int .u8)) x))), (7, [], .v (.c (.p (.int .i64) ret19v.1))), (8, [], .v (.c (.p (.int .i64) ret19v.2))), (29, [], .v (.c (.own 29)))], [(29, [], .arr 22 (.sl (.int .u8)) [x])]⟩ : St)) (by kernel_rfl) ⟨trivial, trivial, trivial⟩ ?_
    refine awl_callk (p := []) (l := [toV1 (.sl (.sl (.int .u8))) [x]]) true [(.sl (.sl (.int .u8)))] [0, 1, 2, 7, 8, 30] [] (fun (ret30v : Bool) => ((ret30v = true → K (decide (ret19v.2 = (0 : Int)))) ∧ (ret30v = false → VC20 v u (fun (ret36v : Int × Int) => VC20 v x (fun (ret42v : Int × Int) => VC20 u x (fun (ret48v : Int × Int) => gcall (α := Bool) (!(((((!decide (ret19v.2 = (0 : Int))) || (!decide (ret36v.2 = (0 : Int)))) || (!decide (ret42v.2 = (0 : Int)))) || (!decide (ret48v.2 = (0 : Int)))) || (!decide (ret19v.1 = ret36v.1)))) (VC21 u v) false (fun (ret75v : Bool) => ((((((((!decide (ret19v.2 = (0 : Int))) || (!decide (ret36v.2 = (0 : Int)))) || (!decide (ret42v.2 = (0 : Int)))) || (!decide (ret48v.2 = (0 : Int)))) || (!decide (ret19v.1 = ret36v.1))) || ((decide (ret19v.1 = (0 : Int))) != ret75v)) = false → InR (ret19v.1 + ret42v.1)) ∧ (((((((((!decide (ret19v.2 = (0 : Int))) || (!decide (ret36v.2 = (0 : Int)))) || (!decide (ret42v.2 = (0 : Int)))) || (!decide (ret48v.2 = (0 : Int)))) || (!decide (ret19v.1 = ret36v.1))) || ((decide (ret19v.1 = (0 : Int))) != ret75v)) || (decide ((ret19v.1 + ret42v.1) < ret48v.1))) = true → K false) ∧ ((((((((!decide (ret19v.2 = (0 : Int))) || (!decide (ret36v.2 = (0 : Int)))) || (!decide (ret42v.2 = (0 : Int)))) || (!decide (ret48v.2 = (0 : Int)))) || (!decide (ret19v.1 = ret36v.1))) || ((decide (ret19v.1 = (0 : Int))) != ret75v)) || (decide ((ret19v.1 + ret42v.1) < ret48v.1))) = false → VC22 x u (fun (ret88v : (List Int)) => VC22 x v (fun (ret91v : (List Int)) => VC20 ret88v ret91v (fun (ret92v : Int × Int) => K ((!decide (ret92v.2 = (0 : Int))) || (decide (ret92v.1 = ret19v.1)))))))))))))))) (fun ret30v => [toV1 .bool ret30v]) (fun ret30v => (⟨102, [(0, [], .v (.c (.p (.sl (.int .u8)) u))), (1, [], .v (.c (.p (.sl (.int .u8)) v))), (2, [], .v (.c (.p (.sl (.int .u8)) x))), (7, [], .v (.c (.p (.int .i64) ret19v.1))), (8, [], .v (.c (.p (.int .i64) ret19v.2))), (30, [], .v (.c (.p .bool ret30v)))], []⟩ : St)) (by kernel_rfl) rfl (by kernel_rfl) rfl rfl Try.call16 (by kernel_rfl) (fun ret30v => by kernel_rfl) (fun _ _ => rfl) (fun hg => link16 [x] _ h) (fun hg => noF hg) (fun ret30v h => ?_)
    have h : ((ret30v = true → K (decide (ret19v.2 = (0 : Int)))) ∧ (ret30v = false → VC20 v u (fun (ret36v : Int × Int) => VC20 v x (fun (ret42v : Int × Int) => VC20 u x (fun (ret48v : Int × Int) => gcall (α := Bool) (!(((((!decide (ret19v.2 = (0 : Int))) || (!decide (ret36v.2 = (0 : Int)))) || (!decide (ret42v.2 = (0 : Int)))) || (!decide (ret48v.2 = (0 : Int)))) || (!decide (ret19v.1 = ret36v.1)))) (VC21 u v) false (fun (ret75v : Bool) => ((((((((!decide (ret19v.2 = (0 : Int))) || (!decide (ret36v.2 = (0 : Int)))) || (!decide (ret42v.2 = (0 : Int)))) || (!decide (ret48v.2 = (0 : Int)))) || (!decide (ret19v.1 = ret36v.1))) || ((decide (ret19v.1 = (0 : Int))) != ret75v)) = false → InR (ret19v.1 + ret42v.1)) ∧ (((((((((!decide (ret19v.2 = (0 : Int))) || (!decide (ret36v.2 = (0 : Int)))) || (!decide (ret42v.2 = (0 : Int)))) || (!decide (ret48v.2 = (0 : Int)))) || (!decide (ret19v.1 = ret36v.1))) || ((decide (ret19v.1 = (0 : Int))) != ret75v)) || (decide ((ret19v.1 + ret42v.1) < ret48v.1))) = true → K false) ∧ ((((((((!decide (ret19v.2 = (0 : Int))) || (!decide (ret36v.2 = (0 : Int)))) || (!decide (ret42v.2 = (0 : Int)))) || (!decide (ret48v.2 = (0 : Int)))) || (!decide (ret19v.1 = ret36v.1))) || ((decide (ret19v.1 = (0 : Int))) != ret75v)) || (decide ((ret19v.1 + ret42v.1) < ret48v.1))) = false → VC22 x u (fun (ret88v : (List Int)) => VC22 x v (fun (ret91v : (List Int)) => VC20 ret88v ret91v (fun (ret92v : Int × Int) => K ((!decide (ret92v.2 = (0 : Int))) || (decide (ret92v.1 = ret19v.1))))))))))))))) := h
    refine awl_nil ?_
    refine thenQ_n ?_
    refine aw_cond (b := ret30v) (by kernel_rfl) (fun hb => ?_) (fun hb => ?_)
    · have h := h.1 hb
      refine aw_seq ?_
      refine aw_region ?_
      refine awl_runp 3 [6] [] (ob := (True ∧ True ∧ True ∧ True)) (st' := (⟨102, [(6, [], .v (.c (.p .bool (decide (ret19v.2 = (0 : Int))))))], []⟩ : St)) (by kernel_rfl) ⟨trivial, trivial, trivial, trivial⟩ ?_
      refine awl_nil ?_
      refine thenQ_n ?_
      refine aw_ret ?_
      refine thenQ_r ?_
      exact retQ_r (σ := Bool) (R := (fun y => [toV1 .bool y])) (decide (ret19v.2 = (0 : Int))) (by kernel_rfl) h
    · have h := h.2 hb
      refine aw_skip ?_
      refine thenQ_n ?_
      refine aw_seq ?_
      refine aw_region ?_
      refine awl_runp 2 [0, 1, 2, 7, 8, 34, 35] [] (ob := (True ∧ True ∧ True)) (st' := (⟨102, [(0, [], .v (.c (.p (.sl (.int .u8)) u))), (1, [], .v (.c (.p (.sl (.int .u8)) v))), (2, [], .v (.c (.p (.sl (.int .u8)) x))), (7, [], .v (.c (.p (.int .i64) ret19v.1))), (8, [], .v (.c (.p (.int .i64) ret19v.2))), (34, [], .v (.c (.p (.sl (.int .u8)) v))), (35, [], .v (.c (.p (.sl (.int .u8)) u)))], []⟩ : St)) (by kernel_rfl) ⟨trivial, trivial, trivial⟩ ?_
      refine awl_callk (p := []) (l := [toV1 (.sl (.int .u8)) v, toV1 (.sl (.int .u8)) u]) false [(.sl (.int .u8)), (.sl (.int .u8))] [0, 1, 2, 7, 8, 36] [] (fun (ret36v : Int × Int) => VC20 v x (fun (ret42v : Int × Int) => VC20 u x (fun (ret48v : Int × Int) => gcall (α := Bool) (!(((((!decide (ret19v.2 = (0 : Int))) || (!decide (ret36v.2 = (0 : Int)))) || (!decide (ret42v.2 = (0 : Int)))) || (!decide (ret48v.2 = (0 : Int)))) || (!decide (ret19v.1 = ret36v.1)))) (VC21 u v) false (fun (ret75v : Bool) => ((((((((!decide (ret19v.2 = (0 : Int))) || (!decide (ret36v.2 = (0 : Int)))) || (!decide (ret42v.2 = (0 : Int)))) || (!decide (ret48v.2 = (0 : Int)))) || (!decide (ret19v.1 = ret36v.1))) || ((decide (ret19v.1 = (0 : Int))) != ret75v)) = false → InR (ret19v.1 + ret42v.1)) ∧ (((((((((!decide (ret19v.2 = (0 : Int))) || (!decide (ret36v.2 = (0 : Int)))) || (!decide (ret42v.2 = (0 : Int)))) || (!decide (ret48v.2 = (0 : Int)))) || (!decide (ret19v.1 = ret36v.1))) || ((decide (ret19v.1 = (0 : Int))) != ret75v)) || (decide ((ret19v.1 + ret42v.1) < ret48v.1))) = true → K false) ∧ ((((((((!decide (ret19v.2 = (0 : Int))) || (!decide (ret36v.2 = (0 : Int)))) || (!decide (ret42v.2 = (0 : Int)))) || (!decide (ret48v.2 = (0 : Int)))) || (!decide (ret19v.1 = ret36v.1))) || ((decide (ret19v.1 = (0 : Int))) != ret75v)) || (decide ((ret19v.1 + ret42v.1) < ret48v.1))) = false → VC22 x u (fun (ret88v : (List Int)) => VC22 x v (fun (ret91v : (List Int)) => VC20 ret88v ret91v (fun (ret92v : Int × Int) => K ((!decide (ret92v.2 = (0 : Int))) || (decide (ret92v.1 = ret19v.1))))))))))))) (fun ret36v => [toV1 (.int .i64) ret36v.1, toV1 (.int .i64) ret36v.2]) (fun ret36v => (⟨102, [(0, [], .v (.c (.p (.sl (.int .u8)) u))), (1, [], .v (.c (.p (.sl (.int .u8)) v))), (2, [], .v (.c (.p (.sl (.int .u8)) x))), (7, [], .v (.c (.p (.int .i64) ret19v.1))), (8, [], .v (.c (.p (.int .i64) ret19v.2))), (36, [], .tup [.c (.p (.int .i64) ret36v.1), .c (.p (.int .i64) ret36v.2)])], []⟩ : St)) (by kernel_rfl) rfl (by kernel_rfl) rfl rfl Try.call20 (by kernel_rfl) (fun ret36v => by kernel_rfl) (fun e => by cases e) (fun hg => link20 v u _ h) (fun hg => noF hg) (fun ret36v h => ?_)
      have h : VC20 v x (fun (ret42v : Int × Int) => VC20 u x (fun (ret48v : Int × Int) => gcall (α := Bool) (!(((((!decide (ret19v.2 = (0 : Int))) || (!decide (ret36v.2 = (0 : Int)))) || (!decide (ret42v.2 = (0 : Int)))) || (!decide (ret48v.2 = (0 : Int)))) || (!decide (ret19v.1 = ret36v.1)))) (VC21 u v) false (fun (ret75v : Bool) => ((((((((!decide (ret19v.2 = (0 : Int))) || (!decide (ret36v.2 = (0 : Int)))) || (!decide (ret42v.2 = (0 : Int)))) || (!decide (ret48v.2 = (0 : Int)))) || (!decide (ret19v.1 = ret36v.1))) || ((decide (ret19v.1 = (0 : Int))) != ret75v)) = false → InR (ret19v.1 + ret42v.1)) ∧ (((((((((!decide (ret19v.2 = (0 : Int))) || (!decide (ret36v.2 = (0 : Int)))) || (!decide (ret42v.2 = (0 : Int)))) || (!decide (ret48v.2 = (0 : Int)))) || (!decide (ret19v.1 = ret36v.1))) || ((decide (ret19v.1 = (0 : Int))) != ret75v)) || (decide ((ret19v.1 + ret42v.1) < ret48v.1))) = true → K false) ∧ ((((((((!decide (ret19v.2 = (0 : Int))) || (!decide (ret36v.2 = (0 : Int)))) || (!decide (ret42v.2 = (0 : Int)))) || (!decide (ret48v.2 = (0 : Int)))) || (!decide (ret19v.1 = ret36v.1))) || ((decide (ret19v.1 = (0 : Int))) != ret75v)) || (decide ((ret19v.1 + ret42v.1) < ret48v.1))) = false → VC22 x u (fun (ret88v : (List Int)) => VC22 x v (fun (ret91v : (List Int)) => VC20 ret88v ret91v (fun (ret92v : Int × Int) => K ((!decide (ret92v.2 = (0 : Int))) || (decide (ret92v.1 = ret19v.1)))))))))))) := h
      refine awl_runp 5 [0, 1, 2, 7, 8, 9, 10] [] (ob := (True ∧ True ∧ True ∧ True ∧ True ∧ True)) (st' := (⟨102, [(0, [], .v (.c (.p (.sl (.int .u8)) u))), (1, [], .v (.c (.p (.sl (.int .u8)) v))), (2, [], .v (.c (.p (.sl (.int .u8)) x))), (7, [], .v (.c (.p (.int .i64) ret19v.1))), (8, [], .v (.c (.p (.int .i64) ret19v.2))), (9, [], .v (.c (.p (.int .i64) ret36v.1))), (10, [], .v (.c (.p (.int .i64) ret36v.2)))], []⟩ : St)) (by kernel_rfl) ⟨trivial, trivial, trivial, trivial, trivial, trivial⟩ ?_
      refine awl_nil ?_
      refine thenQ_n ?_
      refine aw_seq ?_
      refine aw_region ?_
      refine awl_runp 2 [0, 1, 2, 7, 8, 9, 10, 40, 41] [] (ob := (True ∧ True ∧ True)) (st' := (⟨102, [(0, [], .v (.c (.p (.sl (.int .u8)) u))), (1, [], .v (.c (.p (.sl (.int .u8)) v))), (2, [], .v (.c (.p (.sl (.int .u8)) x))), (7, [], .v (.c (.p (.int .i64) ret19v.1))), (8, [], .v (.c (.p (.int .i64) ret19v.2))), (9, [], .v (.c (.p (.int .i64) ret36v.1))), (10, [], .v (.c (.p (.int .i64) ret36v.2))), (40, [], .v (.c (.p (.sl (.int .u8)) v))), (41, [], .v (.c (.p (.sl (.int .u8)) x)))], []⟩ : St)) (by kernel_rfl) ⟨trivial, trivial, trivial⟩ ?_
      refine awl_callk (p := []) (l := [toV1 (.sl (.int .u8)) v, toV1 (.sl (.int .u8)) x]) false [(.sl (.int .u8)), (.sl (.int .u8))] [0, 1, 2, 7, 8, 9, 10, 42] [] (fun (ret42v : Int × Int) => VC20 u x (fun (ret48v : Int × Int) => gcall (α := Bool) (!(((((!decide (ret19v.2 = (0 : Int))) || (!decide (ret36v.2 = (0 : Int)))) || (!decide (ret42v.2 = (0 : Int)))) || (!decide (ret48v.2 = (0 : Int)))) || (!decide (ret19v.1 = ret36v.1)))) (VC21 u v) false (fun (ret75v : Bool) => ((((((((!decide (ret19v.2 = (0 : Int))) || (!decide (ret36v.2 = (0 : Int)))) || (!decide (ret42v.2 = (0 : Int)))) || (!decide (ret48v.2 = (0 : Int)))) || (!decide (ret19v.1 = ret36v.1))) || ((decide (ret19v.1 = (0 : Int))) != ret75v)) = false → InR (ret19v.1 + ret42v.1)) ∧ (((((((((!decide (ret19v.2 = (0 : Int))) || (!decide (ret36v.2 = (0 : Int)))) || (!decide (ret42v.2 = (0 : Int)))) || (!decide (ret48v.2 = (0 : Int)))) || (!decide (ret19v.1 = ret36v.1))) || ((decide (ret19v.1 = (0 : Int))) != ret75v)) || (decide ((ret19v.1 + ret42v.1) < ret48v.1))) = true → K false) ∧ ((((((((!decide (ret19v.2 = (0 : Int))) || (!decide (ret36v.2 = (0 : Int)))) || (!decide (ret42v.2 = (0 : Int)))) || (!decide (ret48v.2 = (0 : Int)))) || (!decide (ret19v.1 = ret36v.1))) || ((decide (ret19v.1 = (0 : Int))) != ret75v)) || (decide ((ret19v.1 + ret42v.1) < ret48v.1))) = false → VC22 x u (fun (ret88v : (List Int)) => VC22 x v (fun (ret91v : (List Int)) => VC20 ret88v ret91v (fun (ret92v : Int × Int) => K ((!decide (ret92v.2 = (0 : Int))) || (decide (ret92v.1 = ret19v.1)))))))))))) (fun ret42v => [toV1 (.int .i64) ret42v.1, toV1 (.int .i64) ret42v.2]) (fun ret42v => (⟨102, [(0, [], .v (.c (.p (.sl (.int .u8)) u))), (1, [], .v (.c (.p (.sl (.int .u8)) v))), (2, [], .v (.c (.p (.sl (.int .u8)) x))), (7, [], .v (.c (.p (.int .i64) ret19v.1))), (8, [], .v (.c (.p (.int .i64) ret19v.2))), (9, [], .v (.c (.p (.int .i64) ret36v.1))), (10, [], .v (.c (.p (.int .i64) ret36v.2))), (42, [], .tup [.c (.p (.int .i64) ret42v.1), .c (.p (.int .i64) ret42v.2)])], []⟩ : St)) (by kernel_rfl) rfl (by kernel_rfl) rfl rfl Try.call20 (by kernel_rfl) (fun ret42v => by kernel_rfl) (fun e => by cases e) (fun hg => link20 v x _ h) (fun hg => noF hg) (fun ret42v h => ?_)
      have h : VC20 u x (fun (ret48v : Int × Int) => gcall (α := Bool) (!(((((!decide (ret19v.2 = (0 : Int))) || (!decide (ret36v.2 = (0 : Int)))) || (!decide (ret42v.2 = (0 : Int)))) || (!decide (ret48v.2 = (0 : Int)))) || (!decide (ret19v.1 = ret36v.1)))) (VC21 u v) false (fun (ret75v : Bool) => ((((((((!decide (ret19v.2 = (0 : Int))) || (!decide (ret36v.2 = (0 : Int)))) || (!decide (ret42v.2 = (0 : Int)))) || (!decide (ret48v.2 = (0 : Int)))) || (!decide (ret19v.1 = ret36v.1))) || ((decide (ret19v.1 = (0 : Int))) != ret75v)) = false → InR (ret19v.1 + ret42v.1)) ∧ (((((((((!decide (ret19v.2 = (0 : Int))) || (!decide (ret36v.2 = (0 : Int)))) || (!decide (ret42v.2 = (0 : Int)))) || (!decide (ret48v.2 = (0 : Int)))) || (!decide (ret19v.1 = ret36v.1))) || ((decide (ret19v.1 = (0 : Int))) != ret75v)) || (decide ((ret19v.1 + ret42v.1) < ret48v.1))) = true → K false) ∧ ((((((((!decide (ret19v.2 = (0 : Int))) || (!decide (ret36v.2 = (0 : Int)))) || (!decide (ret42v.2 = (0 : Int)))) || (!decide (ret48v.2 = (0 : Int)))) || (!decide (ret19v.1 = ret36v.1))) || ((decide (ret19v.1 = (0 : Int))) != ret75v)) || (decide ((ret19v.1 + ret42v.1) < ret48v.1))) = false → VC22 x u (fun (ret88v : (List Int)) => VC22 x v (fun (ret91v : (List Int)) => VC20 ret88v ret91v (fun (ret92v : Int × Int) => K ((!decide (ret92v.2 = (0 : Int))) || (decide (ret92v.1 = ret19v.1))))))))))) := h
      refine awl_runp 5 [0, 1, 2, 7, 8, 9, 10, 11, 12] [] (ob := (True ∧ True ∧ True ∧ True ∧ True ∧ True)) (st' := (⟨102, [(0, [], .v (.c (.p (.sl (.int .u8)) u))), (1, [], .v (.c (.p (.sl (.int .u8)) v))), (2, [], .v (.c (.p (.sl (.int .u8)) x))), (7, [], .v (.c (.p (.int .i64) ret19v.1))), (8, [], .v (.c (.p (.int .i64) ret19v.2))), (9, [], .v (.c (.p (.int .i64) ret36v.1))), (10, [], .v (.c (.p (.int .i64) ret36v.2))), (11, [], .v (.c (.p (.int .i64) ret42v.1))), (12, [], .v (.c (.p (.int .i64) ret42v.2)))], []⟩ : St)) (by kernel_rfl) ⟨trivial, trivial, trivial, trivial, trivial, trivial⟩ ?_
      refine awl_nil ?_
      refine thenQ_n ?_
      refine aw_seq ?_
      refine aw_region ?_
      refine awl_runp 2 [0, 1, 2, 7, 8, 9, 10, 11, 12, 46, 47] [] (ob := (True ∧ True ∧ True)) (st' := (⟨102, [(0, [], .v (.c (.p (.sl (.int .u8)) u))), (1, [], .v (.c (.p (.sl (.int .u8)) v))), (2, [], .v (.c (.p (.sl (.int .u8)) x))), (7, [], .v (.c (.p (.int .i64) ret19v.1))), (8, [], .v (.c (.p (.int .i64) ret19v.2))), (9, [], .v (.c (.p (.int .i64) ret36v.1))), (10, [], .v (.c (.p (.int .i64) ret36v.2))), (11, [], .v (.c (.p (.int .i64) ret42v.1))), (12, [], .v (.c (.p (.int .i64) ret42v.2))), (46, [], .v (.c (.p (.sl (.int .u8)) u))), (47, [], .v (.c (.p (.sl (.int .u8)) x)))], []⟩ : St)) (by kernel_rfl) ⟨trivial, trivial, trivial⟩ ?_
      refine awl_callk (p := []) (l := [toV1 (.sl (.int .u8)) u, toV1 (.sl (.int .u8)) x]) false [(.sl (.int .u8)), (.sl (.int .u8))] [0, 1, 2, 7, 8, 9, 10, 11, 12, 48] [] (fun (ret48v : Int × Int) => gcall (α := Bool) (!(((((!decide (ret19v.2 = (0 : Int))) || (!decide (ret36v.2 = (0 : Int)))) || (!decide (ret42v.2 = (0 : Int)))) || (!decide (ret48v.2 = (0 : Int)))) || (!decide (ret19v.1 = ret36v.1)))) (VC21 u v) false (fun (ret75v : Bool) => ((((((((!decide (ret19v.2 = (0 : Int))) || (!decide (ret36v.2 = (0 : Int)))) || (!decide (ret42v.2 = (0 : Int)))) || (!decide (ret48v.2 = (0 : Int)))) || (!decide (ret19v.1 = ret36v.1))) || ((decide (ret19v.1 = (0 : Int))) != ret75v)) = false → InR (ret19v.1 + ret42v.1)) ∧ (((((((((!decide (ret19v.2 = (0 : Int))) || (!decide (ret36v.2 = (0 : Int)))) || (!decide (ret42v.2 = (0 : Int)))) || (!decide (ret48v.2 = (0 : Int)))) || (!decide (ret19v.1 = ret36v.1))) || ((decide (ret19v.1 = (0 : Int))) != ret75v)) || (decide ((ret19v.1 + ret42v.1) < ret48v.1))) = true → K false) ∧ ((((((((!decide (ret19v.2 = (0 : Int))) || (!decide (ret36v.2 = (0 : Int)))) || (!decide (ret42v.2 = (0 : Int)))) || (!decide (ret48v.2 = (0 : Int)))) || (!decide (ret19v.1 = ret36v.1))) || ((decide (ret19v.1 = (0 : Int))) != ret75v)) || (decide ((ret19v.1 + ret42v.1) < ret48v.1))) = false → VC22 x u (fun (ret88v : (List Int)) => VC22 x v (fun (ret91v : (List Int)) => VC20 ret88v ret91v (fun (ret92v : Int × Int) => K ((!decide (ret92v.2 = (0 : Int))) || (decide (ret92v.1 = ret19v.1))))))))))) (fun ret48v => [toV1 (.int .i64) ret48v.1, toV1 (.int .i64) ret48v.2]) (fun ret48v => (⟨102, [(0, [], .v (.c (.p (.sl (.int .u8)) u))), (1, [], .v (.c (.p (.sl (.int .u8)) v))), (2, [], .v (.c (.p (.sl (.int .u8)) x))), (7, [], .v (.c (.p (.int .i64) ret19v.1))), (8, [], .v (.c (.p (.int .i64) ret19v.2))), (9, [], .v (.c (.p (.int .i64) ret36v.1))), (10, [], .v (.c (.p (.int .i64) ret36v.2))), (11, [], .v (.c (.p (.int .i64) ret42v.1))), (12, [], .v (.c (.p (.int .i64) ret42v.2))), (48, [], .tup [.c (.p (.int .i64) ret48v.1), .c (.p (.int .i64) ret48v.2)])], []⟩ : St)) (by kernel_rfl) rfl (by kernel_rfl) rfl rfl Try.call20 (by kernel_rfl) (fun ret48v => by kernel_rfl) (fun e => by cases e) (fun hg => link20 u x _ h) (fun hg => noF hg) (fun ret48v h => ?_)
      have h : gcall (α := Bool) (!(((((!decide (ret19v.2 = (0 : Int))) || (!decide (ret36v.2 = (0 : Int)))) || (!decide (ret42v.2 = (0 : Int)))) || (!decide (ret48v.2 = (0 : Int)))) || (!decide (ret19v.1 = ret36v.1)))) (VC21 u v) false (fun (ret75v : Bool) => ((((((((!decide (ret19v.2 = (0 : Int))) || (!decide (ret36v.2 = (0 : Int)))) || (!decide (ret42v.2 = (0 : Int)))) || (!decide (ret48v.2 = (0 : Int)))) || (!decide (ret19v.1 = ret36v.1))) || ((decide (ret19v.1 = (0 : Int))) != ret75v)) = false → InR (ret19v.1 + ret42v.1)) ∧ (((((((((!decide (ret19v.2 = (0 : Int))) || (!decide (ret36v.2 = (0 : Int)))) || (!decide (ret42v.2 = (0 : Int)))) || (!decide (ret48v.2 = (0 : Int)))) || (!decide (ret19v.1 = ret36v.1))) || ((decide (ret19v.1 = (0 : Int))) != ret75v)) || (decide ((ret19v.1 + ret42v.1) < ret48v.1))) = true → K false) ∧ ((((((((!decide (ret19v.2 = (0 : Int))) || (!decide (ret36v.2 = (0 : Int)))) || (!decide (ret42v.2 = (0 : Int)))) || (!decide (ret48v.2 = (0 : Int)))) || (!decide (ret19v.1 = ret36v.1))) || ((decide (ret19v.1 = (0 : Int))) != ret75v)) || (decide ((ret19v.1 + ret42v.1) < ret48v.1))) = false → VC22 x u (fun (ret88v : (List Int)) => VC22 x v (fun (ret91v : (List Int)) => VC20 ret88v ret91v (fun (ret92v : Int × Int) => K ((!decide (ret92v.2 = (0 : Int))) || (decide (ret92v.1 = ret19v.1)))))))))) := h
      refine awl_runp 5 [0, 1, 2, 7, 8, 9, 10, 11, 12, 13, 14] [] (ob := (True ∧ True ∧ True ∧ True ∧ True ∧ True)) (st' := (⟨102, [(0, [], .v (.c (.p (.sl (.int .u8)) u))), (1, [], .v (.c (.p (.sl (.int .u8)) v))), (2, [], .v (.c (.p (.sl (.int .u8)) x))), (7, [], .v (.c (.p (.int .i64) ret19v.1))), (8, [], .v (.c (.p (.int .i64) ret19v.2))), (9, [], .v (.c (.p (.int .i64) ret36v.1))), (10, [], .v (.c (.p (.int .i64) ret36v.2))), (11, [], .v (.c (.p (.int .i64) ret42v.1))), (12, [], .v (.c (.p (.int .i64) ret42v.2))), (13, [], .v (.c (.p (.int .i64) ret48v.1))), (14, [], .v (.c (.p (.int .i64) ret48v.2)))], []⟩ : St)) (by kernel_rfl) ⟨trivial, trivial, trivial, trivial, trivial, trivial⟩ ?_
      refine awl_nil ?_
      refine thenQ_n ?_
      refine aw_seq ?_
      refine aw_seq ?_
      refine aw_region ?_
      refine awl_runp 24 [0, 1, 2, 7, 11, 13, 70, 72, 73, 74] [] (ob := (True ∧ True ∧ True ∧ ((!decide (ret19v.2 = (0 : Int))) = false → True) ∧ ((!decide (ret19v.2 = (0 : Int))) = false → True) ∧ True ∧ True ∧ (((!decide (ret19v.2 = (0 : Int))) || (!decide (ret36v.2 = (0 : Int)))) = false → True) ∧ (((!decide (ret19v.2 = (0 : Int))) || (!decide (ret36v.2 = (0 : Int)))) = false → True) ∧ True ∧ True ∧ ((((!decide (ret19v.2 = (0 : Int))) || (!decide (ret36v.2 = (0 : Int)))) || (!decide (ret42v.2 = (0 : Int)))) = false → True) ∧ ((((!decide (ret19v.2 = (0 : Int))) || (!decide (ret36v.2 = (0 : Int)))) || (!decide (ret42v.2 = (0 : Int)))) = false → True) ∧ True ∧ True ∧ (((((!decide (ret19v.2 = (0 : Int))) || (!decide (ret36v.2 = (0 : Int)))) || (!decide (ret42v.2 = (0 : Int)))) || (!decide (ret48v.2 = (0 : Int)))) = false → True) ∧ (((((!decide (ret19v.2 = (0 : Int))) || (!decide (ret36v.2 = (0 : Int)))) || (!decide (ret42v.2 = (0 : Int)))) || (!decide (ret48v.2 = (0 : Int)))) = false → True) ∧ (((((!decide (ret19v.2 = (0 : Int))) || (!decide (ret36v.2 = (0 : Int)))) || (!decide (ret42v.2 = (0 : Int)))) || (!decide (ret48v.2 = (0 : Int)))) = false → True) ∧ True ∧ True ∧ ((((((!decide (ret19v.2 = (0 : Int))) || (!decide (ret36v.2 = (0 : Int)))) || (!decide (ret42v.2 = (0 : Int)))) || (!decide (ret48v.2 = (0 : Int)))) || (!decide (ret19v.1 = ret36v.1))) = false → True) ∧ ((((((!decide (ret19v.2 = (0 : Int))) || (!decide (ret36v.2 = (0 : Int)))) || (!decide (ret42v.2 = (0 : Int)))) || (!decide (ret48v.2 = (0 : Int)))) || (!decide (ret19v.1 = ret36v.1))) = false → True) ∧ ((((((!decide (ret19v.2 = (0 : Int))) || (!decide (ret36v.2 = (0 : Int)))) || (!decide (ret42v.2 = (0 : Int)))) || (!decide (ret48v.2 = (0 : Int)))) || (!decide (ret19v.1 = ret36v.1))) = false → True) ∧ ((((((!decide (ret19v.2 = (0 : Int))) || (!decide (ret36v.2 = (0 : Int)))) || (!decide (ret42v.2 = (0 : Int)))) || (!decide (ret48v.2 = (0 : Int)))) || (!decide (ret19v.1 = ret36v.1))) = false → True) ∧ True)) (st' := (⟨102, [(0, [], .v (.c (.p (.sl (.int .u8)) u))), (1, [], .v (.c (.p (.sl (.int .u8)) v))), (2, [], .v (.c (.p (.sl (.int .u8)) x))), (7, [], .v (.c (.p (.int .i64) ret19v.1))), (11, [], .v (.c (.p (.int .i64) ret42v.1))), (13, [], .v (.c (.p (.int .i64) ret48v.1))), (70, [], .v (.c (.p .bool (((((!decide (ret19v.2 = (0 : Int))) || (!decide (ret36v.2 = (0 : Int)))) || (!decide (ret42v.2 = (0 : Int)))) || (!decide (ret48v.2 = (0 : Int)))) || (!decide (ret19v.1 = ret36v.1)))))), (72, [(70, false)], .v (.c (.p .bool (decide (ret19v.1 = (0 : Int)))))), (73, [(70, false)], .v (.c (.p (.sl (.int .u8)) u))), (74, [(70, false)], .v (.c (.p (.sl (.int .u8)) v)))], []⟩ : St)) (by kernel_rfl) ⟨trivial, trivial, trivial, (fun _ => trivial), (fun _ => trivial), trivial, trivial, (fun _ => trivial), (fun _ => trivial), trivial, trivial, (fun _ => trivial), (fun _ => trivial), trivial, trivial, (fun _ => trivial), (fun _ => trivial), (fun _ => trivial), trivial, trivial, (fun _ => trivial), (fun _ => trivial), (fun _ => trivial), (fun _ => trivial), trivial⟩ ?_
      refine awl_callk (p := [(70, false)]) (l := [toV1 (.sl (.int .u8)) u, toV1 (.sl (.int .u8)) v]) false [(.sl (.int .u8)), (.sl (.int .u8))] [0, 1, 2, 7, 11, 13, 70, 72, 75] [] (fun (ret75v : Bool) => ((((((((!decide (ret19v.2 = (0 : Int))) || (!decide (ret36v.2 = (0 : Int)))) || (!decide (ret42v.2 = (0 : Int)))) || (!decide (ret48v.2 = (0 : Int)))) || (!decide (ret19v.1 = ret36v.1))) || ((decide (ret19v.1 = (0 : Int))) != ret75v)) = false → InR (ret19v.1 + ret42v.1)) ∧ (((((((((!decide (ret19v.2 = (0 : Int))) || (!decide (ret36v.2 = (0 : Int)))) || (!decide (ret42v.2 = (0 : Int)))) || (!decide (ret48v.2 = (0 : Int)))) || (!decide (ret19v.1 = ret36v.1))) || ((decide (ret19v.1 = (0 : Int))) != ret75v)) || (decide ((ret19v.1 + ret42v.1) < ret48v.1))) = true → K false) ∧ ((((((((!decide (ret19v.2 = (0 : Int))) || (!decide (ret36v.2 = (0 : Int)))) || (!decide (ret42v.2 = (0 : Int)))) || (!decide (ret48v.2 = (0 : Int)))) || (!decide (ret19v.1 = ret36v.1))) || ((decide (ret19v.1 = (0 : Int))) != ret75v)) || (decide ((ret19v.1 + ret42v.1) < ret48v.1))) = false → VC22 x u (fun (ret88v : (List Int)) => VC22 x v (fun (ret91v : (List Int)) => VC20 ret88v ret91v (fun (ret92v : Int × Int) => K ((!decide (ret92v.2 = (0 : Int))) || (decide (ret92v.1 = ret19v.1)))))))))) (fun ret75v => [toV1 .bool ret75v]) (fun ret75v => (⟨102, [(0, [], .v (.c (.p (.sl (.int .u8)) u))), (1, [], .v (.c (.p (.sl (.int .u8)) v))), (2, [], .v (.c (.p (.sl (.int .u8)) x))), (7, [], .v (.c (.p (.int .i64) ret19v.1))), (11, [], .v (.c (.p (.int .i64) ret42v.1))), (13, [], .v (.c (.p (.int .i64) ret48v.1))), (70, [], .v (.c (.p .bool (((((!decide (ret19v.2 = (0 : Int))) || (!decide (ret36v.2 = (0 : Int)))) || (!decide (ret42v.2 = (0 : Int)))) || (!decide (ret48v.2 = (0 : Int)))) || (!decide (ret19v.1 = ret36v.1)))))), (72, [(70, false)], .v (.c (.p .bool (decide (ret19v.1 = (0 : Int)))))), (75, [(70, false)], .v (.c (.p .bool ret75v)))], []⟩ : St)) (by kernel_rfl) rfl (by kernel_rfl) rfl rfl Try.call21 (by kernel_rfl) (fun ret75v => by kernel_rfl) (fun e => by cases e) (fun hg => link21 u v _ (by have := gcall_T h (show (!(((((!decide (ret19v.2 = (0 : Int))) || (!decide (ret36v.2 = (0 : Int)))) || (!decide (ret42v.2 = (0 : Int)))) || (!decide (ret48v.2 = (0 : Int)))) || (!decide (ret19v.1 = ret36v.1)))) = true from hg); exact this)) (fun hg => ⟨false, by have := gcall_F h (show (!(((((!decide (ret19v.2 = (0 : Int))) || (!decide (ret36v.2 = (0 : Int)))) || (!decide (ret42v.2 = (0 : Int)))) || (!decide (ret48v.2 = (0 : Int)))) || (!decide (ret19v.1 = ret36v.1)))) = false from hg); exact this⟩) (fun ret75v h => ?_)
      have h : ((((((((!decide (ret19v.2 = (0 : Int))) || (!decide (ret36v.2 = (0 : Int)))) || (!decide (ret42v.2 = (0 : Int)))) || (!decide (ret48v.2 = (0 : Int)))) || (!decide (ret19v.1 = ret36v.1))) || ((decide (ret19v.1 = (0 : Int))) != ret75v)) = false → InR (ret19v.1 + ret42v.1)) ∧ (((((((((!decide (ret19v.2 = (0 : Int))) || (!decide (ret36v.2 = (0 : Int)))) || (!decide (ret42v.2 = (0 : Int)))) || (!decide (ret48v.2 = (0 : Int)))) || (!decide (ret19v.1 = ret36v.1))) || ((decide (ret19v.1 = (0 : Int))) != ret75v)) || (decide ((ret19v.1 + ret42v.1) < ret48v.1))) = true → K false) ∧ ((((((((!decide (ret19v.2 = (0 : Int))) || (!decide (ret36v.2 = (0 : Int)))) || (!decide (ret42v.2 = (0 : Int)))) || (!decide (ret48v.2 = (0 : Int)))) || (!decide (ret19v.1 = ret36v.1))) || ((decide (ret19v.1 = (0 : Int))) != ret75v)) || (decide ((ret19v.1 + ret42v.1) < ret48v.1))) = false → VC22 x u (fun (ret88v : (List Int)) => VC22 x v (fun (ret91v : (List Int)) => VC20 ret88v ret91v (fun (ret92v : Int × Int) => K ((!decide (ret92v.2 = (0 : Int))) || (decide (ret92v.1 = ret19v.1))))))))) := h
      obtain ⟨o1, h⟩ := h
      refine awl_runp 9 [0, 1, 2, 7, 84] [] (ob := (((((((!decide (ret19v.2 = (0 : Int))) || (!decide (ret36v.2 = (0 : Int)))) || (!decide (ret42v.2 = (0 : Int)))) || (!decide (ret48v.2 = (0 : Int)))) || (!decide (ret19v.1 = ret36v.1))) = false → True) ∧ True ∧ True ∧ (((((((!decide (ret19v.2 = (0 : Int))) || (!decide (ret36v.2 = (0 : Int)))) || (!decide (ret42v.2 = (0 : Int)))) || (!decide (ret48v.2 = (0 : Int)))) || (!decide (ret19v.1 = ret36v.1))) || ((decide (ret19v.1 = (0 : Int))) != ret75v)) = false → True) ∧ (((((((!decide (ret19v.2 = (0 : Int))) || (!decide (ret36v.2 = (0 : Int)))) || (!decide (ret42v.2 = (0 : Int)))) || (!decide (ret48v.2 = (0 : Int)))) || (!decide (ret19v.1 = ret36v.1))) || ((decide (ret19v.1 = (0 : Int))) != ret75v)) = false → True) ∧ (((((((!decide (ret19v.2 = (0 : Int))) || (!decide (ret36v.2 = (0 : Int)))) || (!decide (ret42v.2 = (0 : Int)))) || (!decide (ret48v.2 = (0 : Int)))) || (!decide (ret19v.1 = ret36v.1))) || ((decide (ret19v.1 = (0 : Int))) != ret75v)) = false → True) ∧ (((((((!decide (ret19v.2 = (0 : Int))) || (!decide (ret36v.2 = (0 : Int)))) || (!decide (ret42v.2 = (0 : Int)))) || (!decide (ret48v.2 = (0 : Int)))) || (!decide (ret19v.1 = ret36v.1))) || ((decide (ret19v.1 = (0 : Int))) != ret75v)) = false → InR (ret19v.1 + ret42v.1)) ∧ (((((((!decide (ret19v.2 = (0 : Int))) || (!decide (ret36v.2 = (0 : Int)))) || (!decide (ret42v.2 = (0 : Int)))) || (!decide (ret48v.2 = (0 : Int)))) || (!decide (ret19v.1 = ret36v.1))) || ((decide (ret19v.1 = (0 : Int))) != ret75v)) = false → True) ∧ True ∧ True)) (st' := (⟨102, [(0, [], .v (.c (.p (.sl (.int .u8)) u))), (1, [], .v (.c (.p (.sl (.int .u8)) v))), (2, [], .v (.c (.p (.sl (.int .u8)) x))), (7, [], .v (.c (.p (.int .i64) ret19v.1))), (84, [], .v (.c (.p .bool (((((((!decide (ret19v.2 = (0 : Int))) || (!decide (ret36v.2 = (0 : Int)))) || (!decide (ret42v.2 = (0 : Int)))) || (!decide (ret48v.2 = (0 : Int)))) || (!decide (ret19v.1 = ret36v.1))) || ((decide (ret19v.1 = (0 : Int))) != ret75v)) || (decide ((ret19v.1 + ret42v.1) < ret48v.1))))))], []⟩ : St)) (by kernel_rfl) ⟨(fun _ => trivial), trivial, trivial, (fun _ => trivial), (fun _ => trivial), (fun _ => trivial), o1, (fun _ => trivial), trivial, trivial⟩ ?_
      refine awl_nil ?_
      refine thenQ_n ?_
      refine aw_cond (b := (((((((!decide (ret19v.2 = (0 : Int))) || (!decide (ret36v.2 = (0 : Int)))) || (!decide (ret42v.2 = (0 : Int)))) || (!decide (ret48v.2 = (0 : Int)))) || (!decide (ret19v.1 = ret36v.1))) || ((decide (ret19v.1 = (0 : Int))) != ret75v)) || (decide ((ret19v.1 + ret42v.1) < ret48v.1)))) (by kernel_rfl) (fun hb => ?_) (fun hb => ?_)
      · have h := h.1 hb
        refine aw_seq ?_
        refine aw_region ?_
        refine awl_runp 1 [6] [] (ob := (True ∧ True)) (st' := (⟨102, [(6, [], .v (.c (.p .bool false)))], []⟩ : St)) (by kernel_rfl) ⟨trivial, trivial⟩ ?_
        refine awl_nil ?_
        refine thenQ_n ?_
        refine aw_ret ?_
        refine thenQ_r ?_
        exact retQ_r (σ := Bool) (R := (fun y => [toV1 .bool y])) false (by kernel_rfl) h
      · have h := h.2 hb
        refine aw_skip ?_
        refine thenQ_n ?_
        refine aw_seq ?_
        refine aw_region ?_
        refine awl_runp 2 [1, 2, 7, 86, 87] [] (ob := (True ∧ True ∧ True)) (st' := (⟨102, [(1, [], .v (.c (.p (.sl (.int .u8)) v))), (2, [], .v (.c (.p (.sl (.int .u8)) x))), (7, [], .v (.c (.p (.int .i64) ret19v.1))), (86, [], .v (.c (.p (.sl (.int .u8)) x))), (87, [], .v (.c (.p (.sl (.int .u8)) u)))], []⟩ : St)) (by kernel_rfl) ⟨trivial, trivial, trivial⟩ ?_
        refine awl_callk (p := []) (l := [toV1 (.sl (.int .u8)) x, toV1 (.sl (.int .u8)) u]) false [(.sl (.int .u8)), (.sl (.int .u8))] [1, 2, 7, 88] [] (fun (ret88v : (List Int)) => VC22 x v (fun (ret91v : (List Int)) => VC20 ret88v ret91v (fun (ret92v : Int × Int) => K ((!decide (ret92v.2 = (0 : Int))) || (decide (ret92v.1 = ret19v.1)))))) (fun ret88v => [toV1 (.sl (.int .u8)) ret88v]) (fun ret88v => (⟨102, [(1, [], .v (.c (.p (.sl (.int .u8)) v))), (2, [], .v (.c (.p (.sl (.int .u8)) x))), (7, [], .v (.c (.p (.int .i64) ret19v.1))), (88, [], .v (.c (.p (.sl (.int .u8)) ret88v)))], []⟩ : St)) (by kernel_rfl) rfl (by kernel_rfl) rfl rfl Try.call22 (by kernel_rfl) (fun ret88v => by kernel_rfl) (fun e => by cases e) (fun hg => link22 x u _ h) (fun hg => noF hg) (fun ret88v h => ?_)
        have h : VC22 x v (fun (ret91v : (List Int)) => VC20 ret88v ret91v (fun (ret92v : Int × Int) => K ((!decide (ret92v.2 = (0 : Int))) || (decide (ret92v.1 = ret19v.1))))) := h
        refine awl_runp 2 [7, 88, 89, 90] [] (ob := (True ∧ True ∧ True)) (st' := (⟨102, [(7, [], .v (.c (.p (.int .i64) ret19v.1))), (88, [], .v (.c (.p (.sl (.int .u8)) ret88v))), (89, [], .v (.c (.p (.sl (.int .u8)) x))), (90, [], .v (.c (.p (.sl (.int .u8)) v)))], []⟩ : St)) (by kernel_rfl) ⟨trivial, trivial, trivial⟩ ?_
        refine awl_callk (p := []) (l := [toV1 (.sl (.int .u8)) x, toV1 (.sl (.int .u8)) v]) false [(.sl (.int .u8)), (.sl (.int .u8))] [7, 88, 91] [] (fun (ret91v : (List Int)) => VC20 ret88v ret91v (fun (ret92v : Int × Int) => K ((!decide (ret92v.2 = (0 : Int))) || (decide (ret92v.1 = ret19v.1))))) (fun ret91v => [toV1 (.sl (.int .u8)) ret91v]) (fun ret91v => (⟨102, [(7, [], .v (.c (.p (.int .i64) ret19v.1))), (88, [], .v (.c (.p (.sl (.int .u8)) ret88v))), (91, [], .v (.c (.p (.sl (.int .u8)) ret91v)))], []⟩ : St)) (by kernel_rfl) rfl (by kernel_rfl) rfl rfl Try.call22 (by kernel_rfl) (fun ret91v => by kernel_rfl) (fun e => by cases e) (fun hg => link22 x v _ h) (fun hg => noF hg) (fun ret91v h => ?_)
        have h : VC20 ret88v ret91v (fun (ret92v : Int × Int) => K ((!decide (ret92v.2 = (0 : Int))) || (decide (ret92v.1 = ret19v.1)))) := h
        refine awl_callk (p := []) (l := [toV1 (.sl (.int .u8)) ret88v, toV1 (.sl (.int .u8)) ret91v]) false [(.sl (.int .u8)), (.sl (.int .u8))] [7, 92] [] (fun (ret92v : Int × Int) => K ((!decide (ret92v.2 = (0 : Int))) || (decide (ret92v.1 = ret19v.1)))) (fun ret92v => [toV1 (.int .i64) ret92v.1, toV1 (.int .i64) ret92v.2]) (fun ret92v => (⟨102, [(7, [], .v (.c (.p (.int .i64) ret19v.1))), (92, [], .tup [.c (.p (.int .i64) ret92v.1), .c (.p (.int .i64) ret92v.2)])], []⟩ : St)) (by kernel_rfl) rfl (by kernel_rfl) rfl rfl Try.call20 (by kernel_rfl) (fun ret92v => by kernel_rfl) (fun e => by cases e) (fun hg => link20 ret88v ret91v _ h) (fun hg => noF hg) (fun ret92v h => ?_)
        have h : K ((!decide (ret92v.2 = (0 : Int))) || (decide (ret92v.1 = ret19v.1))) := h
        refine awl_runp 5 [7, 10, 15] [] (ob := (True ∧ True ∧ True ∧ True ∧ True ∧ True)) (st' := (⟨102, [(7, [], .v (.c (.p (.int .i64) ret19v.1))), (10, [], .v (.c (.p (.int .i64) ret92v.2))), (15, [], .v (.c (.p (.int .i64) ret92v.1)))], []⟩ : St)) (by kernel_rfl) ⟨trivial, trivial, trivial, trivial, trivial, trivial⟩ ?_
        refine awl_nil ?_
        refine thenQ_n ?_
        refine aw_seq ?_
        refine aw_region ?_
        refine awl_runp 8 [6] [] (ob := (True ∧ True ∧ True ∧ ((!decide (ret92v.2 = (0 : Int))) = false → True) ∧ ((!decide (ret92v.2 = (0 : Int))) = false → True) ∧ ((!decide (ret92v.2 = (0 : Int))) = false → True) ∧ True ∧ True ∧ True)) (st' := (⟨102, [(6, [], .v (.c (.p .bool ((!decide (ret92v.2 = (0 : Int))) || (decide (ret92v.1 = ret19v.1))))))], []⟩ : St)) (by kernel_rfl) ⟨trivial, trivial, trivial, (fun _ => trivial), (fun _ => trivial), (fun _ => trivial), trivial, trivial, trivial⟩ ?_
        refine awl_nil ?_
        refine thenQ_n ?_
        refine aw_ret ?_
        exact retQ_r (σ := Bool) (R := (fun y => [toV1 .bool y])) ((!decide (ret92v.2 = (0 : Int))) || (decide (ret92v.1 = ret19v.1))) (by kernel_rfl) h

end Dec
