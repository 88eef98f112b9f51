/-
  Printed by dec2.py: of each function its plain demand, and that the demand gives the contract.
-/
import Derived.Test.YtfamoglamihdfaaProg
import Derived.Test.YtfamoglamihdfaaDecT
import Derived.Test.YtfamoglamihdfaaDecW
set_option linter.unusedVariables false
set_option linter.unusedSimpArgs false
set_option maxRecDepth 100000
namespace Dec
open Go Go.RowKit Go.Proofs

-- coppicer/bracket.ways
def VC41_k1 (K : (List (List Int)) → Prop) (out : (List (List Int))) : Prop :=
  K out

def VC41_k2 (v15 : Int) (out : (List (List Int))) (X1 : (List Int) × Int × (List (List Int)) → Prop) (next : (List Int)) : Prop :=
  (roomN (out.length + [next].length) ∧ (InR (v15 + (1 : Int)) ∧ X1 (next, (v15 + (1 : Int)), (out ++ [next]))))

def VC41_k3 (v22 : Int) (X2 : Int × (List Int) → Prop) (next2 : (List Int)) : Prop :=
  (InR (v22 + (1 : Int)) ∧ X2 ((v22 + (1 : Int)), next2))

def VC41_l2 (steps : Int) (row : (List Int)) (v15 : Int) (out : (List (List Int))) (X1 : (List Int) × Int × (List (List Int)) → Prop) (v22 : Int) (next : (List Int)) (X2 : Int × (List Int) → Prop) : Prop :=
  (((decide (v22 < (steps + (1 : Int)))) = true → (InR (v22 + (1 : Int)) ∧ inIdx (v22 + (1 : Int)) row.length ∧ inIdx v22 next.length ∧ (((decide ((0 : Int) < v22)) = true → (inIdx v22 (next.set ((v22).toNat) (row.getD ((v22 + (1 : Int))).toNat (0 : Int))).length ∧ InR (v22 - (1 : Int)) ∧ inIdx (v22 - (1 : Int)) row.length ∧ (InR (((next.set ((v22).toNat) (row.getD ((v22 + (1 : Int))).toNat (0 : Int))).getD ((v22).toNat) (0 : Int)) + (row.getD ((v22 - (1 : Int))).toNat (0 : Int))) ∧ inIdx v22 (next.set ((v22).toNat) (row.getD ((v22 + (1 : Int))).toNat (0 : Int))).length ∧ VC41_k3 v22 X2 ((next.set ((v22).toNat) (row.getD ((v22 + (1 : Int))).toNat (0 : Int))).set ((v22).toNat) (((next.set ((v22).toNat) (row.getD ((v22 + (1 : Int))).toNat (0 : Int))).getD ((v22).toNat) (0 : Int)) + (row.getD ((v22 - (1 : Int))).toNat (0 : Int))))))) ∧ ((decide ((0 : Int) < v22)) = false → VC41_k3 v22 X2 (next.set ((v22).toNat) (row.getD ((v22 + (1 : Int))).toNat (0 : Int))))))) ∧ ((decide (v22 < (steps + (1 : Int)))) = false → VC41_k2 v15 out X1 next))

def VC41_l1 (steps : Int) (K : (List (List Int)) → Prop) (row : (List Int)) (v15 : Int) (out : (List (List Int))) (X1 : (List Int) × Int × (List (List Int)) → Prop) : Prop :=
  (((decide (v15 < steps)) = true → (InR (steps + (2 : Int)) ∧ room (steps + (2 : Int)) ∧ (InR (steps + (1 : Int)) ∧ Loop (σ := Int × (List Int)) (fun s X => VC41_l2 steps row v15 out X1 s.1 s.2 X) ((0 : Int), (List.replicate ((steps + (2 : Int))).toNat (0 : Int)))))) ∧ ((decide (v15 < steps)) = false → VC41_k1 K out))

def VC41 (steps : Int) (K : (List (List Int)) → Prop) : Prop :=
  (InR (steps + (2 : Int)) ∧ room (steps + (2 : Int)) ∧ (inIdx (0 : Int) (List.replicate ((steps + (2 : Int))).toNat (0 : Int)).length ∧ Loop (σ := (List Int) × Int × (List (List Int))) (fun s X => VC41_l1 steps K s.1 s.2.1 s.2.2 X) (((List.replicate ((steps + (2 : Int))).toNat (0 : Int)).set (((0 : Int)).toNat) (1 : Int)), (0 : Int), [((List.replicate ((steps + (2 : Int))).toNat (0 : Int)).set (((0 : Int)).toNat) (1 : Int))])))

set_option maxHeartbeats 4000000 in
theorem link41 (steps : Int) (K : (List (List Int)) → Prop) (h : VC41 steps K) : ACalls Try.prog 41 [toV1 (.int .i64) steps] (fun res => ∃ y, res = (fun y => [toV1 (.sl (.sl (.int .i64))) y]) y ∧ K y) := by
  refine acalls_of_aw [(.sl (.sl (.int .i64)))] [.t 2] Try.func41 rfl rfl rfl ?_
  unfold VC41 at h
  refine aw_seq ?_
  refine aw_region ?_
  refine awl_runp 1 [0] [] (ob := (True ∧ True)) (st' := (⟨54, [(0, [], .v (.c (.p (.int .i64) steps)))], []⟩ : St)) (by kernel_rfl) ⟨trivial, trivial⟩ ?_
  refine awl_nil ?_
  refine thenQ_n ?_
  refine aw_seq ?_
  refine aw_region ?_
  obtain ⟨o1, o2, h⟩ := h
  refine awl_runp 4 [0, 3] [9] (ob := (True ∧ InR (steps + (2 : Int)) ∧ room (steps + (2 : Int)) ∧ True ∧ True)) (st' := (⟨54, [(0, [], .v (.c (.p (.int .i64) steps))), (3, [], .v (.c (.own 9)))], [(9, [], .arr 2 (.int .i64) (List.replicate ((steps + (2 : Int))).toNat (0 : Int)))]⟩ : St)) (by kernel_rfl) ⟨trivial, o1, o2, trivial, trivial⟩ ?_
  refine awl_nil ?_
  refine thenQ_n ?_
  refine aw_seq ?_
  refine aw_region ?_
  obtain ⟨o1, h⟩ := h
  refine awl_runp 3 [0, 3] [9] (ob := (True ∧ inIdx (0 : Int) (List.replicate ((steps + (2 : Int))).toNat (0 : Int)).length ∧ True ∧ True)) (st' := (⟨54, [(0, [], .v (.c (.p (.int .i64) steps))), (3, [], .v (.c (.own 9)))], [(9, [], .arr 2 (.int .i64) ((List.replicate ((steps + (2 : Int))).toNat (0 : Int)).set (((0 : Int)).toNat) (1 : Int)))]⟩ : St)) (by kernel_rfl) ⟨trivial, o1, trivial, trivial⟩ ?_
  refine awl_nil ?_
  refine thenQ_n ?_
  refine aw_seq ?_
  refine aw_region ?_
  refine awl_runp 1 [0, 3, 12] [9] (ob := (True ∧ True)) (st' := (⟨54, [(0, [], .v (.c (.p (.int .i64) steps))), (3, [], .v (.c (.own 9))), (12, [], .v (.c (.own 9)))], [(9, [], .arr 2 (.int .i64) ((List.replicate ((steps + (2 : Int))).toNat (0 : Int)).set (((0 : Int)).toNat) (1 : Int)))]⟩ : St)) (by kernel_rfl) ⟨trivial, trivial⟩ ?_
  refine awl_conv [.freeze 9] (st' := (⟨54, [(0, [], .v (.c (.p (.int .i64) steps))), (3, [], .v (.c (.p (.sl (.int .i64)) ((List.replicate ((steps + (2 : Int))).toNat (0 : Int)).set (((0 : Int)).toNat) (1 : Int))))), (12, [], .v (.c (.p (.sl (.int .i64)) ((List.replicate ((steps + (2 : Int))).toNat (0 : Int)).set (((0 : Int)).toNat) (1 : Int)))))], []⟩ : St)) (by kernel_rfl) ?_
  refine awl_runp 2 [0, 3, 4] [13] (ob := (True ∧ True ∧ True)) (st' := (⟨54, [(0, [], .v (.c (.p (.int .i64) steps))), (3, [], .v (.c (.p (.sl (.int .i64)) ((List.replicate ((steps + (2 : Int))).toNat (0 : Int)).set (((0 : Int)).toNat) (1 : Int))))), (4, [], .v (.c (.own 13)))], [(13, [], .arr 72 (.sl (.int .i64)) [((List.replicate ((steps + (2 : Int))).toNat (0 : Int)).set (((0 : Int)).toNat) (1 : Int))])]⟩ : St)) (by kernel_rfl) ⟨trivial, trivial, trivial⟩ ?_
  refine awl_nil ?_
  refine thenQ_n ?_
  refine aw_seq ?_
  refine aw_seq ?_
  refine aw_region ?_
  refine awl_runp 2 [0, 3, 4, 14, 15] [13] (ob := (True ∧ True ∧ True)) (st' := (⟨54, [(0, [], .v (.c (.p (.int .i64) steps))), (3, [], .v (.c (.p (.sl (.int .i64)) ((List.replicate ((steps + (2 : Int))).toNat (0 : Int)).set (((0 : Int)).toNat) (1 : Int))))), (4, [], .v (.c (.own 13))), (14, [], .v (.c (.p (.int .i64) steps))), (15, [], .v (.c (.p (.int .i64) (0 : Int))))], [(13, [], .arr 72 (.sl (.int .i64)) [((List.replicate ((steps + (2 : Int))).toNat (0 : Int)).set (((0 : Int)).toNat) (1 : Int))])]⟩ : St)) (by kernel_rfl) ⟨trivial, trivial, trivial⟩ ?_
  refine awl_nil ?_
  refine thenQ_n ?_
  refine withJoin (σ := (List (List Int))) (fun s => (⟨54, [(4, [], .v (.c (.own 13)))], [(13, [], .arr 72 (.sl (.int .i64)) s)]⟩ : St)) (fun s => VC41_k1 K s) (fun out h => ?_) (fun rest1 => ?_)
  · have h : VC41_k1 K out := h
    unfold VC41_k1 at h
    refine thenQ_n ?_
    refine aw_seq ?_
    refine aw_region ?_
    refine awl_runp 2 [2] [13] (ob := (True ∧ True ∧ True)) (st' := (⟨54, [(2, [], .v (.c (.own 13)))], [(13, [], .arr 72 (.sl (.int .i64)) out)]⟩ : St)) (by kernel_rfl) ⟨trivial, trivial, trivial⟩ ?_
    refine awl_nil ?_
    refine thenQ_n ?_
    refine aw_conv [.freeze 13] (st' := (⟨54, [(2, [], .v (.c (.p (.sl (.sl (.int .i64))) out)))], []⟩ : St)) (by kernel_rfl) ?_
    refine aw_ret ?_
    exact retQ_r (σ := (List (List Int))) (R := (fun y => [toV1 (.sl (.sl (.int .i64))) y])) (ob := (True ∧ True)) out (by kernel_rfl) ⟨trivial, trivial⟩ h
  · refine aw_block ?_
    refine aw_loop (σ := (List Int) × Int × (List (List Int))) (fun s => (⟨54, [(0, [], .v (.c (.p (.int .i64) steps))), (3, [], .v (.c (.p (.sl (.int .i64)) s.1))), (4, [], .v (.c (.own 13))), (14, [], .v (.c (.p (.int .i64) steps))), (15, [], .v (.c (.p (.int .i64) s.2.1)))], [(13, [], .arr 72 (.sl (.int .i64)) s.2.2)]⟩ : St)) (fun s X => VC41_l1 steps K s.1 s.2.1 s.2.2 X) (s0 := (((List.replicate ((steps + (2 : Int))).toNat (0 : Int)).set (((0 : Int)).toNat) (1 : Int)), (0 : Int), [((List.replicate ((steps + (2 : Int))).toNat (0 : Int)).set (((0 : Int)).toNat) (1 : Int))])) (fun s X1 h => ?_) h
    obtain ⟨row, v15, out⟩ := s
    have h : VC41_l1 steps K row v15 out X1 := h
    unfold VC41_l1 at h
    refine aw_seq ?_
    refine aw_region ?_
    refine awl_runp 1 [0, 3, 4, 14, 15, 16] [13] (ob := (True ∧ True)) (st' := (⟨54, [(0, [], .v (.c (.p (.int .i64) steps))), (3, [], .v (.c (.p (.sl (.int .i64)) row))), (4, [], .v (.c (.own 13))), (14, [], .v (.c (.p (.int .i64) steps))), (15, [], .v (.c (.p (.int .i64) v15))), (16, [], .v (.c (.p .bool (decide (v15 < steps)))))], [(13, [], .arr 72 (.sl (.int .i64)) out)]⟩ : St)) (by kernel_rfl) ⟨trivial, trivial⟩ ?_
    refine awl_nil ?_
    refine thenQ_n ?_
    refine aw_seq ?_
    refine aw_cond (b := (decide (v15 < steps))) (by kernel_rfl) (fun hb => ?_) (fun hb => ?_)
    · have h := h.1 hb
      refine aw_skip ?_
      refine thenQ_n ?_
      refine aw_seq ?_
      refine aw_block ?_
      refine aw_seq ?_
      refine aw_region ?_
      obtain ⟨o1, o2, h⟩ := h
      refine awl_runp 4 [0, 3, 4, 5, 14, 15] [13, 19] (ob := (True ∧ InR (steps + (2 : Int)) ∧ room (steps + (2 : Int)) ∧ True ∧ True)) (st' := (⟨54, [(0, [], .v (.c (.p (.int .i64) steps))), (3, [], .v (.c (.p (.sl (.int .i64)) row))), (4, [], .v (.c (.own 13))), (5, [], .v (.c (.own 19))), (14, [], .v (.c (.p (.int .i64) steps))), (15, [], .v (.c (.p (.int .i64) v15)))], [(13, [], .arr 72 (.sl (.int .i64)) out), (19, [], .arr 2 (.int .i64) (List.replicate ((steps + (2 : Int))).toNat (0 : Int)))]⟩ : St)) (by kernel_rfl) ⟨trivial, o1, o2, trivial, trivial⟩ ?_
      refine awl_nil ?_
      refine thenQ_n ?_
      refine aw_seq ?_
      refine aw_seq ?_
      refine aw_region ?_
      obtain ⟨o1, h⟩ := h
      refine awl_runp 3 [0, 3, 4, 5, 14, 15, 21, 22] [13, 19] (ob := (True ∧ InR (steps + (1 : Int)) ∧ True ∧ True)) (st' := (⟨54, [(0, [], .v (.c (.p (.int .i64) steps))), (3, [], .v (.c (.p (.sl (.int .i64)) row))), (4, [], .v (.c (.own 13))), (5, [], .v (.c (.own 19))), (14, [], .v (.c (.p (.int .i64) steps))), (15, [], .v (.c (.p (.int .i64) v15))), (21, [], .v (.c (.p (.int .i64) (steps + (1 : Int))))), (22, [], .v (.c (.p (.int .i64) (0 : Int))))], [(13, [], .arr 72 (.sl (.int .i64)) out), (19, [], .arr 2 (.int .i64) (List.replicate ((steps + (2 : Int))).toNat (0 : Int)))]⟩ : St)) (by kernel_rfl) ⟨trivial, o1, trivial, trivial⟩ ?_
      refine awl_nil ?_
      refine thenQ_n ?_
      refine withJoin (σ := (List Int)) (fun s => (⟨54, [(0, [], .v (.c (.p (.int .i64) steps))), (4, [], .v (.c (.own 13))), (5, [], .v (.c (.own 19))), (14, [], .v (.c (.p (.int .i64) steps))), (15, [], .v (.c (.p (.int .i64) v15)))], [(13, [], .arr 72 (.sl (.int .i64)) out), (19, [], .arr 2 (.int .i64) s)]⟩ : St)) (fun s => VC41_k2 v15 out X1 s) (fun next h => ?_) (fun rest2 => ?_)
      · have h : VC41_k2 v15 out X1 next := h
        unfold VC41_k2 at h
        refine thenQ_n ?_
        refine aw_seq ?_
        refine aw_region ?_
        refine awl_runp 2 [0, 5, 14, 15, 47, 48] [13, 19] (ob := (True ∧ True ∧ True)) (st' := (⟨54, [(0, [], .v (.c (.p (.int .i64) steps))), (5, [], .v (.c (.own 19))), (14, [], .v (.c (.p (.int .i64) steps))), (15, [], .v (.c (.p (.int .i64) v15))), (47, [], .v (.c (.own 13))), (48, [], .v (.c (.own 19)))], [(13, [], .arr 72 (.sl (.int .i64)) out), (19, [], .arr 2 (.int .i64) next)]⟩ : St)) (by kernel_rfl) ⟨trivial, trivial, trivial⟩ ?_
        refine awl_conv [.freeze 19] (st' := (⟨54, [(0, [], .v (.c (.p (.int .i64) steps))), (5, [], .v (.c (.p (.sl (.int .i64)) next))), (14, [], .v (.c (.p (.int .i64) steps))), (15, [], .v (.c (.p (.int .i64) v15))), (47, [], .v (.c (.own 13))), (48, [], .v (.c (.p (.sl (.int .i64)) next)))], [(13, [], .arr 72 (.sl (.int .i64)) out)]⟩ : St)) (by kernel_rfl) ?_
        obtain ⟨o1, h⟩ := h
        refine awl_runp 3 [0, 4, 5, 14, 15] [50] (ob := (True ∧ roomN (out.length + [next].length) ∧ True ∧ True)) (st' := (⟨54, [(0, [], .v (.c (.p (.int .i64) steps))), (4, [], .v (.c (.own 50))), (5, [], .v (.c (.p (.sl (.int .i64)) next))), (14, [], .v (.c (.p (.int .i64) steps))), (15, [], .v (.c (.p (.int .i64) v15)))], [(50, [], .arr 72 (.sl (.int .i64)) (out ++ [next]))]⟩ : St)) (by kernel_rfl) ⟨trivial, o1, trivial, trivial⟩ ?_
        refine awl_nil ?_
        refine thenQ_n ?_
        refine aw_region ?_
        refine awl_runp 2 [0, 3, 4, 14, 15] [50] (ob := (True ∧ True ∧ True)) (st' := (⟨54, [(0, [], .v (.c (.p (.int .i64) steps))), (3, [], .v (.c (.p (.sl (.int .i64)) next))), (4, [], .v (.c (.own 50))), (14, [], .v (.c (.p (.int .i64) steps))), (15, [], .v (.c (.p (.int .i64) v15)))], [(50, [], .arr 72 (.sl (.int .i64)) (out ++ [next]))]⟩ : St)) (by kernel_rfl) ⟨trivial, trivial, trivial⟩ ?_
        refine awl_nil ?_
        refine blockQ_n ?_
        refine thenQ_n ?_
        refine aw_region ?_
        obtain ⟨o1, h⟩ := h
        refine awl_runp 2 [0, 3, 4, 14, 15] [50] (ob := (InR (v15 + (1 : Int)) ∧ True ∧ True)) (st' := (⟨54, [(0, [], .v (.c (.p (.int .i64) steps))), (3, [], .v (.c (.p (.sl (.int .i64)) next))), (4, [], .v (.c (.own 50))), (14, [], .v (.c (.p (.int .i64) steps))), (15, [], .v (.c (.p (.int .i64) (v15 + (1 : Int)))))], [(50, [], .arr 72 (.sl (.int .i64)) (out ++ [next]))]⟩ : St)) (by kernel_rfl) ⟨o1, trivial, trivial⟩ ?_
        refine awl_conv [.ren 50 20050, .ren 20050 13] (st' := (⟨54, [(0, [], .v (.c (.p (.int .i64) steps))), (3, [], .v (.c (.p (.sl (.int .i64)) next))), (4, [], .v (.c (.own 13))), (14, [], .v (.c (.p (.int .i64) steps))), (15, [], .v (.c (.p (.int .i64) (v15 + (1 : Int)))))], [(13, [], .arr 72 (.sl (.int .i64)) (out ++ [next]))]⟩ : St)) (by kernel_rfl) ?_
        refine awl_nil ?_
        exact thenQ_n ⟨(next, (v15 + (1 : Int)), (out ++ [next])), rfl, h⟩
      · refine aw_block ?_
        refine aw_loop (σ := Int × (List Int)) (fun s => (⟨54, [(0, [], .v (.c (.p (.int .i64) steps))), (3, [], .v (.c (.p (.sl (.int .i64)) row))), (4, [], .v (.c (.own 13))), (5, [], .v (.c (.own 19))), (14, [], .v (.c (.p (.int .i64) steps))), (15, [], .v (.c (.p (.int .i64) v15))), (21, [], .v (.c (.p (.int .i64) (steps + (1 : Int))))), (22, [], .v (.c (.p (.int .i64) s.1)))], [(13, [], .arr 72 (.sl (.int .i64)) out), (19, [], .arr 2 (.int .i64) s.2)]⟩ : St)) (fun s X => VC41_l2 steps row v15 out X1 s.1 s.2 X) (s0 := ((0 : Int), (List.replicate ((steps + (2 : Int))).toNat (0 : Int)))) (fun s X2 h => ?_) h
        obtain ⟨v22, next⟩ := s
        have h : VC41_l2 steps row v15 out X1 v22 next X2 := h
        unfold VC41_l2 at h
        refine aw_seq ?_
        refine aw_region ?_
        refine awl_runp 1 [0, 3, 4, 5, 14, 15, 21, 22, 23] [13, 19] (ob := (True ∧ True)) (st' := (⟨54, [(0, [], .v (.c (.p (.int .i64) steps))), (3, [], .v (.c (.p (.sl (.int .i64)) row))), (4, [], .v (.c (.own 13))), (5, [], .v (.c (.own 19))), (14, [], .v (.c (.p (.int .i64) steps))), (15, [], .v (.c (.p (.int .i64) v15))), (21, [], .v (.c (.p (.int .i64) (steps + (1 : Int))))), (22, [], .v (.c (.p (.int .i64) v22))), (23, [], .v (.c (.p .bool (decide (v22 < (steps + (1 : Int)))))))], [(13, [], .arr 72 (.sl (.int .i64)) out), (19, [], .arr 2 (.int .i64) next)]⟩ : St)) (by kernel_rfl) ⟨trivial, trivial⟩ ?_
        refine awl_nil ?_
        refine thenQ_n ?_
        refine aw_seq ?_
        refine aw_cond (b := (decide (v22 < (steps + (1 : Int))))) (by kernel_rfl) (fun hb => ?_) (fun hb => ?_)
        · have h := h.1 hb
          refine aw_skip ?_
          refine thenQ_n ?_
          refine aw_seq ?_
          refine aw_block ?_
          refine aw_seq ?_
          refine aw_region ?_
          refine awl_runp 2 [0, 3, 4, 5, 6, 14, 15, 21, 22] [13, 19] (ob := (True ∧ True ∧ True)) (st' := (⟨54, [(0, [], .v (.c (.p (.int .i64) steps))), (3, [], .v (.c (.p (.sl (.int .i64)) row))), (4, [], .v (.c (.own 13))), (5, [], .v (.c (.own 19))), (6, [], .v (.c (.p (.int .i64) v22))), (14, [], .v (.c (.p (.int .i64) steps))), (15, [], .v (.c (.p (.int .i64) v15))), (21, [], .v (.c (.p (.int .i64) (steps + (1 : Int))))), (22, [], .v (.c (.p (.int .i64) v22)))], [(13, [], .arr 72 (.sl (.int .i64)) out), (19, [], .arr 2 (.int .i64) next)]⟩ : St)) (by kernel_rfl) ⟨trivial, trivial, trivial⟩ ?_
          refine awl_nil ?_
          refine thenQ_n ?_
          refine aw_seq ?_
          refine aw_region ?_
          obtain ⟨o1, o2, o3, h⟩ := h
          refine awl_runp 9 [0, 3, 4, 5, 6, 14, 15, 21, 22] [13, 19] (ob := (True ∧ True ∧ True ∧ True ∧ InR (v22 + (1 : Int)) ∧ inIdx (v22 + (1 : Int)) row.length ∧ True ∧ inIdx v22 next.length ∧ True ∧ True)) (st' := (⟨54, [(0, [], .v (.c (.p (.int .i64) steps))), (3, [], .v (.c (.p (.sl (.int .i64)) row))), (4, [], .v (.c (.own 13))), (5, [], .v (.c (.own 19))), (6, [], .v (.c (.p (.int .i64) v22))), (14, [], .v (.c (.p (.int .i64) steps))), (15, [], .v (.c (.p (.int .i64) v15))), (21, [], .v (.c (.p (.int .i64) (steps + (1 : Int))))), (22, [], .v (.c (.p (.int .i64) v22)))], [(13, [], .arr 72 (.sl (.int .i64)) out), (19, [], .arr 2 (.int .i64) (next.set ((v22).toNat) (row.getD ((v22 + (1 : Int))).toNat (0 : Int))))]⟩ : St)) (by kernel_rfl) ⟨trivial, trivial, trivial, trivial, o1, o2, trivial, o3, trivial, trivial⟩ ?_
          refine awl_nil ?_
          refine thenQ_n ?_
          refine aw_seq ?_
          refine aw_region ?_
          refine awl_runp 2 [0, 3, 4, 5, 6, 14, 15, 21, 22, 34] [13, 19] (ob := (True ∧ True ∧ True)) (st' := (⟨54, [(0, [], .v (.c (.p (.int .i64) steps))), (3, [], .v (.c (.p (.sl (.int .i64)) row))), (4, [], .v (.c (.own 13))), (5, [], .v (.c (.own 19))), (6, [], .v (.c (.p (.int .i64) v22))), (14, [], .v (.c (.p (.int .i64) steps))), (15, [], .v (.c (.p (.int .i64) v15))), (21, [], .v (.c (.p (.int .i64) (steps + (1 : Int))))), (22, [], .v (.c (.p (.int .i64) v22))), (34, [], .v (.c (.p .bool (decide ((0 : Int) < v22)))))], [(13, [], .arr 72 (.sl (.int .i64)) out), (19, [], .arr 2 (.int .i64) (next.set ((v22).toNat) (row.getD ((v22 + (1 : Int))).toNat (0 : Int))))]⟩ : St)) (by kernel_rfl) ⟨trivial, trivial, trivial⟩ ?_
          refine awl_nil ?_
          refine thenQ_n ?_
          refine withJoin (σ := (List Int)) (fun s => (⟨54, [(0, [], .v (.c (.p (.int .i64) steps))), (3, [], .v (.c (.p (.sl (.int .i64)) row))), (4, [], .v (.c (.own 13))), (5, [], .v (.c (.own 19))), (14, [], .v (.c (.p (.int .i64) steps))), (15, [], .v (.c (.p (.int .i64) v15))), (21, [], .v (.c (.p (.int .i64) (steps + (1 : Int))))), (22, [], .v (.c (.p (.int .i64) v22)))], [(13, [], .arr 72 (.sl (.int .i64)) out), (19, [], .arr 2 (.int .i64) s)]⟩ : St)) (fun s => VC41_k3 v22 X2 s) (fun next2 h => ?_) (fun rest3 => ?_)
          · have h : VC41_k3 v22 X2 next2 := h
            unfold VC41_k3 at h
            refine blockQ_n ?_
            refine thenQ_n ?_
            refine aw_region ?_
            obtain ⟨o1, h⟩ := h
            refine awl_runp 2 [0, 3, 4, 5, 14, 15, 21, 22] [13, 19] (ob := (InR (v22 + (1 : Int)) ∧ True ∧ True)) (st' := (⟨54, [(0, [], .v (.c (.p (.int .i64) steps))), (3, [], .v (.c (.p (.sl (.int .i64)) row))), (4, [], .v (.c (.own 13))), (5, [], .v (.c (.own 19))), (14, [], .v (.c (.p (.int .i64) steps))), (15, [], .v (.c (.p (.int .i64) v15))), (21, [], .v (.c (.p (.int .i64) (steps + (1 : Int))))), (22, [], .v (.c (.p (.int .i64) (v22 + (1 : Int)))))], [(13, [], .arr 72 (.sl (.int .i64)) out), (19, [], .arr 2 (.int .i64) next2)]⟩ : St)) (by kernel_rfl) ⟨o1, trivial, trivial⟩ ?_
            refine awl_nil ?_
            exact thenQ_n ⟨((v22 + (1 : Int)), next2), rfl, h⟩
          · refine aw_cond (b := (decide ((0 : Int) < v22))) (by kernel_rfl) (fun hb => ?_) (fun hb => ?_)
            · have h := h.1 hb
              refine awd_begin [19] (by kernel_rfl) ?_
              obtain ⟨o1, o2, o3, h⟩ := h
              refine awd_runp (by kernel_rfl) [0, 1, 2, 4, 5, 6, 7, 8] [0, 3, 4, 5, 14, 15, 21, 22, 35, 36, 37, 43] [13, 19] (ob := (True ∧ True ∧ inIdx v22 (next.set ((v22).toNat) (row.getD ((v22 + (1 : Int))).toNat (0 : Int))).length ∧ True ∧ True ∧ InR (v22 - (1 : Int)) ∧ inIdx (v22 - (1 : Int)) row.length ∧ True ∧ True)) (done' := [8, 7, 6, 5, 4, 2, 1, 0]) (st' := (⟨54, [(0, [], .v (.c (.p (.int .i64) steps))), (3, [], .v (.c (.p (.sl (.int .i64)) row))), (4, [], .v (.c (.own 13))), (5, [], .v (.c (.own 19))), (14, [], .v (.c (.p (.int .i64) steps))), (15, [], .v (.c (.p (.int .i64) v15))), (21, [], .v (.c (.p (.int .i64) (steps + (1 : Int))))), (22, [], .v (.c (.p (.int .i64) v22))), (35, [], .v (.c (.own 19))), (36, [], .v (.c (.p (.int .i64) v22))), (37, [], .v (.c (.el 19 ((v22).toNat) 1))), (43, [], .v (.c (.p (.int .i64) (row.getD ((v22 - (1 : Int))).toNat (0 : Int)))))], [(13, [], .arr 72 (.sl (.int .i64)) out), (19, [], .arr 2 (.int .i64) (next.set ((v22).toNat) (row.getD ((v22 + (1 : Int))).toNat (0 : Int))))]⟩ : St)) (by kernel_rfl) ⟨trivial, trivial, o1, trivial, trivial, o2, o3, trivial, trivial⟩ ?_
              refine awd_one (i := 3) (by kernel_rfl) ?_
              refine adop_stepp [0, 3, 4, 5, 14, 15, 21, 22, 35, 36, 38, 43] [13, 19] (ob := True) (st' := (⟨54, [(0, [], .v (.c (.p (.int .i64) steps))), (3, [], .v (.c (.p (.sl (.int .i64)) row))), (4, [], .v (.c (.own 13))), (5, [], .v (.c (.own 19))), (14, [], .v (.c (.p (.int .i64) steps))), (15, [], .v (.c (.p (.int .i64) v15))), (21, [], .v (.c (.p (.int .i64) (steps + (1 : Int))))), (22, [], .v (.c (.p (.int .i64) v22))), (35, [], .v (.c (.own 19))), (36, [], .v (.c (.p (.int .i64) v22))), (38, [], .v (.c (.p (.int .i64) ((next.set ((v22).toNat) (row.getD ((v22 + (1 : Int))).toNat (0 : Int))).getD ((v22).toNat) (0 : Int))))), (43, [], .v (.c (.p (.int .i64) (row.getD ((v22 - (1 : Int))).toNat (0 : Int)))))], [(13, [], .arr 72 (.sl (.int .i64)) out), (19, [], .arr 2 (.int .i64) (next.set ((v22).toNat) (row.getD ((v22 + (1 : Int))).toNat (0 : Int))))]⟩ : St)) rfl (by kernel_rfl) trivial ?_
              obtain ⟨o1, o2, h⟩ := h
              refine awd_runp (by kernel_rfl) [9, 10] [0, 3, 4, 5, 14, 15, 21, 22, 44, 45] [13, 19] (ob := (InR (((next.set ((v22).toNat) (row.getD ((v22 + (1 : Int))).toNat (0 : Int))).getD ((v22).toNat) (0 : Int)) + (row.getD ((v22 - (1 : Int))).toNat (0 : Int))) ∧ inIdx v22 (next.set ((v22).toNat) (row.getD ((v22 + (1 : Int))).toNat (0 : Int))).length ∧ True)) (done' := [10, 9, 3, 8, 7, 6, 5, 4, 2, 1, 0]) (st' := (⟨54, [(0, [], .v (.c (.p (.int .i64) steps))), (3, [], .v (.c (.p (.sl (.int .i64)) row))), (4, [], .v (.c (.own 13))), (5, [], .v (.c (.own 19))), (14, [], .v (.c (.p (.int .i64) steps))), (15, [], .v (.c (.p (.int .i64) v15))), (21, [], .v (.c (.p (.int .i64) (steps + (1 : Int))))), (22, [], .v (.c (.p (.int .i64) v22))), (44, [], .v (.c (.p (.int .i64) (((next.set ((v22).toNat) (row.getD ((v22 + (1 : Int))).toNat (0 : Int))).getD ((v22).toNat) (0 : Int)) + (row.getD ((v22 - (1 : Int))).toNat (0 : Int)))))), (45, [], .v (.c (.el 19 ((v22).toNat) 1)))], [(13, [], .arr 72 (.sl (.int .i64)) out), (19, [], .arr 2 (.int .i64) (next.set ((v22).toNat) (row.getD ((v22 + (1 : Int))).toNat (0 : Int))))]⟩ : St)) (by kernel_rfl) ⟨o1, o2, trivial⟩ ?_
              refine awd_one (i := 11) (by kernel_rfl) ?_
              refine adop_stepp [0, 3, 4, 5, 14, 15, 21, 22] [13, 19] (ob := True) (st' := (⟨54, [(0, [], .v (.c (.p (.int .i64) steps))), (3, [], .v (.c (.p (.sl (.int .i64)) row))), (4, [], .v (.c (.own 13))), (5, [], .v (.c (.own 19))), (14, [], .v (.c (.p (.int .i64) steps))), (15, [], .v (.c (.p (.int .i64) v15))), (21, [], .v (.c (.p (.int .i64) (steps + (1 : Int))))), (22, [], .v (.c (.p (.int .i64) v22)))], [(13, [], .arr 72 (.sl (.int .i64)) out), (19, [], .arr 2 (.int .i64) ((next.set ((v22).toNat) (row.getD ((v22 + (1 : Int))).toNat (0 : Int))).set ((v22).toNat) (((next.set ((v22).toNat) (row.getD ((v22 + (1 : Int))).toNat (0 : Int))).getD ((v22).toNat) (0 : Int)) + (row.getD ((v22 - (1 : Int))).toNat (0 : Int)))))]⟩ : St)) rfl (by kernel_rfl) trivial ?_
              refine awd_done (by kernel_rfl) ?_
              exact rest3 ((next.set ((v22).toNat) (row.getD ((v22 + (1 : Int))).toNat (0 : Int))).set ((v22).toNat) (((next.set ((v22).toNat) (row.getD ((v22 + (1 : Int))).toNat (0 : Int))).getD ((v22).toNat) (0 : Int)) + (row.getD ((v22 - (1 : Int))).toNat (0 : Int)))) h
            · have h := h.2 hb
              refine aw_conv [.prune [0, 3, 4, 5, 14, 15, 21, 22] [13, 19]] (st' := (⟨54, [(0, [], .v (.c (.p (.int .i64) steps))), (3, [], .v (.c (.p (.sl (.int .i64)) row))), (4, [], .v (.c (.own 13))), (5, [], .v (.c (.own 19))), (14, [], .v (.c (.p (.int .i64) steps))), (15, [], .v (.c (.p (.int .i64) v15))), (21, [], .v (.c (.p (.int .i64) (steps + (1 : Int))))), (22, [], .v (.c (.p (.int .i64) v22)))], [(13, [], .arr 72 (.sl (.int .i64)) out), (19, [], .arr 2 (.int .i64) (next.set ((v22).toNat) (row.getD ((v22 + (1 : Int))).toNat (0 : Int))))]⟩ : St)) (by kernel_rfl) ?_
              refine aw_skip ?_
              exact rest3 (next.set ((v22).toNat) (row.getD ((v22 + (1 : Int))).toNat (0 : Int))) h
        · have h := h.2 hb
          refine aw_conv [.prune [0, 4, 5, 14, 15] [13, 19]] (st' := (⟨54, [(0, [], .v (.c (.p (.int .i64) steps))), (4, [], .v (.c (.own 13))), (5, [], .v (.c (.own 19))), (14, [], .v (.c (.p (.int .i64) steps))), (15, [], .v (.c (.p (.int .i64) v15)))], [(13, [], .arr 72 (.sl (.int .i64)) out), (19, [], .arr 2 (.int .i64) next)]⟩ : St)) (by kernel_rfl) ?_
          refine aw_exit ?_
          refine thenQ_x ?_
          refine thenQ_x ?_
          refine blockQ_hit ?_
          exact rest2 next h
    · have h := h.2 hb
      refine aw_conv [.prune [4] [13]] (st' := (⟨54, [(4, [], .v (.c (.own 13)))], [(13, [], .arr 72 (.sl (.int .i64)) out)]⟩ : St)) (by kernel_rfl) ?_
      refine aw_exit ?_
      refine thenQ_x ?_
      refine thenQ_x ?_
      refine blockQ_hit ?_
      exact rest1 out h

-- coppicer/bracket.Many
def VC16 (n : Int) (K : Int × Int → Prop) : Prop :=
  ((((decide (n < (0 : Int))) || (decide ((8 : Int) < n))) = true → K ((0 : Int), (1 : Int))) ∧ (((decide (n < (0 : Int))) || (decide ((8 : Int) < n))) = false → (InR ((2 : Int) * n) ∧ VC41 ((2 : Int) * n) (fun (ret12v : (List (List Int))) => (InR ((2 : Int) * n) ∧ inIdx ((2 : Int) * n) ret12v.length ∧ inIdx (0 : Int) (ret12v.getD (((2 : Int) * n)).toNat ([] : (List Int))).length ∧ K (((ret12v.getD (((2 : Int) * n)).toNat ([] : (List Int))).getD ((0 : Int)).toNat (0 : Int)), (0 : Int)))))))

set_option maxHeartbeats 4000000 in
theorem link16 (n : Int) (K : Int × Int → Prop) (h : VC16 n K) : ACalls Try.prog 16 [toV1 (.int .i64) n] (fun res => ∃ y, res = (fun y => [toV1 (.int .i64) y.1, toV1 (.int .i64) y.2]) y ∧ K y) := by
  refine acalls_of_aw [(.int .i64), (.int .i64)] [.t 2, .t 3] Try.func16 rfl rfl rfl ?_
  unfold VC16 at h
  refine aw_seq ?_
  refine aw_region ?_
  refine awl_runp 2 [0] [] (ob := (True ∧ True ∧ True)) (st' := (⟨19, [(0, [], .v (.c (.p (.int .i64) n)))], []⟩ : St)) (by kernel_rfl) ⟨trivial, trivial, trivial⟩ ?_
  refine awl_nil ?_
  refine thenQ_n ?_
  refine aw_seq ?_
  refine aw_seq ?_
  refine aw_region ?_
  refine awl_runp 6 [0, 9] [] (ob := (True ∧ True ∧ True ∧ ((decide (n < (0 : Int))) = false → True) ∧ ((decide (n < (0 : Int))) = false → True) ∧ True ∧ True)) (st' := (⟨19, [(0, [], .v (.c (.p (.int .i64) n))), (9, [], .v (.c (.p .bool ((decide (n < (0 : Int))) || (decide ((8 : Int) < n))))))], []⟩ : St)) (by kernel_rfl) ⟨trivial, trivial, trivial, (fun _ => trivial), (fun _ => trivial), trivial, trivial⟩ ?_
  refine awl_nil ?_
  refine thenQ_n ?_
  refine aw_cond (b := ((decide (n < (0 : Int))) || (decide ((8 : Int) < n)))) (by kernel_rfl) (fun hb => ?_) (fun hb => ?_)
  · have h := h.1 hb
    refine aw_seq ?_
    refine aw_region ?_
    refine awl_runp 2 [2, 3] [] (ob := (True ∧ True ∧ True)) (st' := (⟨19, [(2, [], .v (.c (.p (.int .i64) (0 : Int)))), (3, [], .v (.c (.p (.int .i64) (1 : Int))))], []⟩ : St)) (by kernel_rfl) ⟨trivial, trivial, trivial⟩ ?_
    refine awl_nil ?_
    refine thenQ_n ?_
    refine aw_ret ?_
    refine thenQ_r ?_
    exact retQ_r (σ := Int × Int) (R := (fun y => [toV1 (.int .i64) y.1, toV1 (.int .i64) y.2])) (ob := (True ∧ True ∧ True)) ((0 : Int), (1 : Int)) (by kernel_rfl) ⟨trivial, trivial, trivial⟩ h
  · have h := h.2 hb
    refine aw_skip ?_
    refine thenQ_n ?_
    refine aw_seq ?_
    refine aw_region ?_
    obtain ⟨o1, h⟩ := h
    refine awl_runp 2 [0, 11] [] (ob := (True ∧ InR ((2 : Int) * n) ∧ True)) (st' := (⟨19, [(0, [], .v (.c (.p (.int .i64) n))), (11, [], .v (.c (.p (.int .i64) ((2 : Int) * n))))], []⟩ : St)) (by kernel_rfl) ⟨trivial, o1, trivial⟩ ?_
    refine awl_callk (p := []) (l := [toV1 (.int .i64) ((2 : Int) * n)]) (cl := []) false [.d (.int .i64)] [0, 12] [] (fun (ret12v : (List (List Int))) => (InR ((2 : Int) * n) ∧ inIdx ((2 : Int) * n) ret12v.length ∧ inIdx (0 : Int) (ret12v.getD (((2 : Int) * n)).toNat ([] : (List Int))).length ∧ K (((ret12v.getD (((2 : Int) * n)).toNat ([] : (List Int))).getD ((0 : Int)).toNat (0 : Int)), (0 : Int)))) (fun ret12v => [toV1 (.sl (.sl (.int .i64))) ret12v]) (fun ret12v => (⟨19, [(0, [], .v (.c (.p (.int .i64) n))), (12, [], .v (.c (.p (.sl (.sl (.int .i64))) ret12v)))], []⟩ : St)) (by kernel_rfl) rfl (by kernel_rfl) rfl (by kernel_rfl) Try.call41 (by kernel_rfl) (fun ret12v => by kernel_rfl) (fun e => by cases e) (fun hg => link41 ((2 : Int) * n) _ h) (fun hg => noF hg) (fun ret12v h => ?_)
    have h : (InR ((2 : Int) * n) ∧ inIdx ((2 : Int) * n) ret12v.length ∧ inIdx (0 : Int) (ret12v.getD (((2 : Int) * n)).toNat ([] : (List Int))).length ∧ K (((ret12v.getD (((2 : Int) * n)).toNat ([] : (List Int))).getD ((0 : Int)).toNat (0 : Int)), (0 : Int))) := h
    obtain ⟨o1, o2, o3, h⟩ := h
    refine awl_runp 8 [2, 3] [] (ob := (True ∧ InR ((2 : Int) * n) ∧ inIdx ((2 : Int) * n) ret12v.length ∧ True ∧ inIdx (0 : Int) (ret12v.getD (((2 : Int) * n)).toNat ([] : (List Int))).length ∧ True ∧ True ∧ True ∧ True)) (st' := (⟨19, [(2, [], .v (.c (.p (.int .i64) ((ret12v.getD (((2 : Int) * n)).toNat ([] : (List Int))).getD ((0 : Int)).toNat (0 : Int))))), (3, [], .v (.c (.p (.int .i64) (0 : Int))))], []⟩ : St)) (by kernel_rfl) ⟨trivial, o1, o2, trivial, o3, trivial, trivial, trivial, trivial⟩ ?_
    refine awl_nil ?_
    refine thenQ_n ?_
    refine aw_ret ?_
    exact retQ_r (σ := Int × Int) (R := (fun y => [toV1 (.int .i64) y.1, toV1 (.int .i64) y.2])) (ob := (True ∧ True ∧ True)) (((ret12v.getD (((2 : Int) * n)).toNat ([] : (List Int))).getD ((0 : Int)).toNat (0 : Int)), (0 : Int)) (by kernel_rfl) ⟨trivial, trivial, trivial⟩ h

-- coppicer/coppicerkeep.BracketMany
def VC4 (n : Int) (K : Bool → Prop) : Prop :=
  VC16 n (fun (ret9v : Int × Int) => (VC16 (IntKind.wrap .i64 (n + (1 : Int))) (fun (ret15v : Int × Int) => ((((decide (n < (0 : Int))) || (decide ((8 : Int) ≤ n))) = true → K ((!decide (ret15v.2 = (0 : Int))) || (decide (n < (0 : Int))))) ∧ (((decide (n < (0 : Int))) || (decide ((8 : Int) ≤ n))) = false → (((((decide (ret9v.2 = (0 : Int))) && (decide (ret15v.2 = (0 : Int)))) && (decide ((1 : Int) ≤ ret9v.1))) = true → InR (n + (2 : Int))) ∧ ((((decide (ret9v.2 = (0 : Int))) && (decide (ret15v.2 = (0 : Int)))) && (decide ((1 : Int) ≤ ret9v.1))) = true → InR ((n + (2 : Int)) * ret15v.1)) ∧ ((((decide (ret9v.2 = (0 : Int))) && (decide (ret15v.2 = (0 : Int)))) && (decide ((1 : Int) ≤ ret9v.1))) = true → InR ((4 : Int) * n)) ∧ ((((decide (ret9v.2 = (0 : Int))) && (decide (ret15v.2 = (0 : Int)))) && (decide ((1 : Int) ≤ ret9v.1))) = true → InR (((4 : Int) * n) + (2 : Int))) ∧ ((((decide (ret9v.2 = (0 : Int))) && (decide (ret15v.2 = (0 : Int)))) && (decide ((1 : Int) ≤ ret9v.1))) = true → InR ((((4 : Int) * n) + (2 : Int)) * ret9v.1)) ∧ K ((((decide (ret9v.2 = (0 : Int))) && (decide (ret15v.2 = (0 : Int)))) && (decide ((1 : Int) ≤ ret9v.1))) && (decide (((n + (2 : Int)) * ret15v.1) = ((((4 : Int) * n) + (2 : Int)) * ret9v.1))))))))))

set_option maxHeartbeats 4000000 in
theorem link4 (n : Int) (K : Bool → Prop) (h : VC4 n K) : ACalls Try.prog 4 [toV1 (.int .i64) n] (fun res => ∃ y, res = (fun y => [toV1 .bool y]) y ∧ K y) := by
  refine acalls_of_aw [.bool] [.t 2] Try.func4 rfl rfl rfl ?_
  unfold VC4 at h
  refine aw_seq ?_
  refine aw_region ?_
  refine awl_runp 1 [0] [] (ob := (True ∧ True)) (st' := (⟨52, [(0, [], .v (.c (.p (.int .i64) n)))], []⟩ : St)) (by kernel_rfl) ⟨trivial, trivial⟩ ?_
  refine awl_nil ?_
  refine thenQ_n ?_
  refine aw_seq ?_
  refine aw_region ?_
  refine awl_runp 1 [0, 8] [] (ob := (True ∧ True)) (st' := (⟨52, [(0, [], .v (.c (.p (.int .i64) n))), (8, [], .v (.c (.p (.int .i64) n)))], []⟩ : St)) (by kernel_rfl) ⟨trivial, trivial⟩ ?_
  refine awl_callk (p := []) (l := [toV1 (.int .i64) n]) (cl := []) false [.d (.int .i64)] [0, 9] [] (fun (ret9v : Int × Int) => (VC16 (IntKind.wrap .i64 (n + (1 : Int))) (fun (ret15v : Int × Int) => ((((decide (n < (0 : Int))) || (decide ((8 : Int) ≤ n))) = true → K ((!decide (ret15v.2 = (0 : Int))) || (decide (n < (0 : Int))))) ∧ (((decide (n < (0 : Int))) || (decide ((8 : Int) ≤ n))) = false → (((((decide (ret9v.2 = (0 : Int))) && (decide (ret15v.2 = (0 : Int)))) && (decide ((1 : Int) ≤ ret9v.1))) = true → InR (n + (2 : Int))) ∧ ((((decide (ret9v.2 = (0 : Int))) && (decide (ret15v.2 = (0 : Int)))) && (decide ((1 : Int) ≤ ret9v.1))) = true → InR ((n + (2 : Int)) * ret15v.1)) ∧ ((((decide (ret9v.2 = (0 : Int))) && (decide (ret15v.2 = (0 : Int)))) && (decide ((1 : Int) ≤ ret9v.1))) = true → InR ((4 : Int) * n)) ∧ ((((decide (ret9v.2 = (0 : Int))) && (decide (ret15v.2 = (0 : Int)))) && (decide ((1 : Int) ≤ ret9v.1))) = true → InR (((4 : Int) * n) + (2 : Int))) ∧ ((((decide (ret9v.2 = (0 : Int))) && (decide (ret15v.2 = (0 : Int)))) && (decide ((1 : Int) ≤ ret9v.1))) = true → InR ((((4 : Int) * n) + (2 : Int)) * ret9v.1)) ∧ K ((((decide (ret9v.2 = (0 : Int))) && (decide (ret15v.2 = (0 : Int)))) && (decide ((1 : Int) ≤ ret9v.1))) && (decide (((n + (2 : Int)) * ret15v.1) = ((((4 : Int) * n) + (2 : Int)) * ret9v.1)))))))))) (fun ret9v => [toV1 (.int .i64) ret9v.1, toV1 (.int .i64) ret9v.2]) (fun ret9v => (⟨52, [(0, [], .v (.c (.p (.int .i64) n))), (9, [], .tup [.c (.p (.int .i64) ret9v.1), .c (.p (.int .i64) ret9v.2)])], []⟩ : St)) (by kernel_rfl) rfl (by kernel_rfl) rfl (by kernel_rfl) Try.call16 (by kernel_rfl) (fun ret9v => by kernel_rfl) (fun e => by cases e) (fun hg => link16 n _ h) (fun hg => noF hg) (fun ret9v h => ?_)
  have h : (VC16 (IntKind.wrap .i64 (n + (1 : Int))) (fun (ret15v : Int × Int) => ((((decide (n < (0 : Int))) || (decide ((8 : Int) ≤ n))) = true → K ((!decide (ret15v.2 = (0 : Int))) || (decide (n < (0 : Int))))) ∧ (((decide (n < (0 : Int))) || (decide ((8 : Int) ≤ n))) = false → (((((decide (ret9v.2 = (0 : Int))) && (decide (ret15v.2 = (0 : Int)))) && (decide ((1 : Int) ≤ ret9v.1))) = true → InR (n + (2 : Int))) ∧ ((((decide (ret9v.2 = (0 : Int))) && (decide (ret15v.2 = (0 : Int)))) && (decide ((1 : Int) ≤ ret9v.1))) = true → InR ((n + (2 : Int)) * ret15v.1)) ∧ ((((decide (ret9v.2 = (0 : Int))) && (decide (ret15v.2 = (0 : Int)))) && (decide ((1 : Int) ≤ ret9v.1))) = true → InR ((4 : Int) * n)) ∧ ((((decide (ret9v.2 = (0 : Int))) && (decide (ret15v.2 = (0 : Int)))) && (decide ((1 : Int) ≤ ret9v.1))) = true → InR (((4 : Int) * n) + (2 : Int))) ∧ ((((decide (ret9v.2 = (0 : Int))) && (decide (ret15v.2 = (0 : Int)))) && (decide ((1 : Int) ≤ ret9v.1))) = true → InR ((((4 : Int) * n) + (2 : Int)) * ret9v.1)) ∧ K ((((decide (ret9v.2 = (0 : Int))) && (decide (ret15v.2 = (0 : Int)))) && (decide ((1 : Int) ≤ ret9v.1))) && (decide (((n + (2 : Int)) * ret15v.1) = ((((4 : Int) * n) + (2 : Int)) * ret9v.1))))))))) := h
  refine awl_runp 5 [0, 3, 4] [] (ob := (True ∧ True ∧ True ∧ True ∧ True ∧ True)) (st' := (⟨52, [(0, [], .v (.c (.p (.int .i64) n))), (3, [], .v (.c (.p (.int .i64) ret9v.1))), (4, [], .v (.c (.p (.int .i64) ret9v.2)))], []⟩ : St)) (by kernel_rfl) ⟨trivial, trivial, trivial, trivial, trivial, trivial⟩ ?_
  refine awl_nil ?_
  refine thenQ_n ?_
  refine aw_seq ?_
  refine aw_region ?_

  refine awl_runp 1 [0, 3, 4, 13] [] (ob := (True ∧ True)) (st' := (⟨52, [(0, [], .v (.c (.p (.int .i64) n))), (3, [], .v (.c (.p (.int .i64) ret9v.1))), (4, [], .v (.c (.p (.int .i64) ret9v.2))), (13, [], .v (.c (.p (.int .i64) n)))], []⟩ : St)) (by kernel_rfl) ⟨trivial, trivial⟩ ?_
  refine awl_addw (m := n) (n := 1) [0, 3, 4, 14] [] (⟨52, [(0, [], .v (.c (.p (.int .i64) n))), (3, [], .v (.c (.p (.int .i64) ret9v.1))), (4, [], .v (.c (.p (.int .i64) ret9v.2))), (14, [], .v (.c (.p (.int .i64) (IntKind.wrap .i64 (n + (1 : Int))))))], []⟩ : St) rfl rfl (by kernel_rfl) rfl (by kernel_rfl) (by kernel_rfl) (by kernel_rfl) ?_
  refine awl_callk (p := []) (l := [toV1 (.int .i64) (IntKind.wrap .i64 (n + (1 : Int)))]) (cl := []) false [.d (.int .i64)] [0, 3, 4, 15] [] (fun (ret15v : Int × Int) => ((((decide (n < (0 : Int))) || (decide ((8 : Int) ≤ n))) = true → K ((!decide (ret15v.2 = (0 : Int))) || (decide (n < (0 : Int))))) ∧ (((decide (n < (0 : Int))) || (decide ((8 : Int) ≤ n))) = false → (((((decide (ret9v.2 = (0 : Int))) && (decide (ret15v.2 = (0 : Int)))) && (decide ((1 : Int) ≤ ret9v.1))) = true → InR (n + (2 : Int))) ∧ ((((decide (ret9v.2 = (0 : Int))) && (decide (ret15v.2 = (0 : Int)))) && (decide ((1 : Int) ≤ ret9v.1))) = true → InR ((n + (2 : Int)) * ret15v.1)) ∧ ((((decide (ret9v.2 = (0 : Int))) && (decide (ret15v.2 = (0 : Int)))) && (decide ((1 : Int) ≤ ret9v.1))) = true → InR ((4 : Int) * n)) ∧ ((((decide (ret9v.2 = (0 : Int))) && (decide (ret15v.2 = (0 : Int)))) && (decide ((1 : Int) ≤ ret9v.1))) = true → InR (((4 : Int) * n) + (2 : Int))) ∧ ((((decide (ret9v.2 = (0 : Int))) && (decide (ret15v.2 = (0 : Int)))) && (decide ((1 : Int) ≤ ret9v.1))) = true → InR ((((4 : Int) * n) + (2 : Int)) * ret9v.1)) ∧ K ((((decide (ret9v.2 = (0 : Int))) && (decide (ret15v.2 = (0 : Int)))) && (decide ((1 : Int) ≤ ret9v.1))) && (decide (((n + (2 : Int)) * ret15v.1) = ((((4 : Int) * n) + (2 : Int)) * ret9v.1)))))))) (fun ret15v => [toV1 (.int .i64) ret15v.1, toV1 (.int .i64) ret15v.2]) (fun ret15v => (⟨52, [(0, [], .v (.c (.p (.int .i64) n))), (3, [], .v (.c (.p (.int .i64) ret9v.1))), (4, [], .v (.c (.p (.int .i64) ret9v.2))), (15, [], .tup [.c (.p (.int .i64) ret15v.1), .c (.p (.int .i64) ret15v.2)])], []⟩ : St)) (by kernel_rfl) rfl (by kernel_rfl) rfl (by kernel_rfl) Try.call16 (by kernel_rfl) (fun ret15v => by kernel_rfl) (fun e => by cases e) (fun hg => link16 (IntKind.wrap .i64 (n + (1 : Int))) _ h) (fun hg => noF hg) (fun ret15v h => ?_)
  have h : ((((decide (n < (0 : Int))) || (decide ((8 : Int) ≤ n))) = true → K ((!decide (ret15v.2 = (0 : Int))) || (decide (n < (0 : Int))))) ∧ (((decide (n < (0 : Int))) || (decide ((8 : Int) ≤ n))) = false → (((((decide (ret9v.2 = (0 : Int))) && (decide (ret15v.2 = (0 : Int)))) && (decide ((1 : Int) ≤ ret9v.1))) = true → InR (n + (2 : Int))) ∧ ((((decide (ret9v.2 = (0 : Int))) && (decide (ret15v.2 = (0 : Int)))) && (decide ((1 : Int) ≤ ret9v.1))) = true → InR ((n + (2 : Int)) * ret15v.1)) ∧ ((((decide (ret9v.2 = (0 : Int))) && (decide (ret15v.2 = (0 : Int)))) && (decide ((1 : Int) ≤ ret9v.1))) = true → InR ((4 : Int) * n)) ∧ ((((decide (ret9v.2 = (0 : Int))) && (decide (ret15v.2 = (0 : Int)))) && (decide ((1 : Int) ≤ ret9v.1))) = true → InR (((4 : Int) * n) + (2 : Int))) ∧ ((((decide (ret9v.2 = (0 : Int))) && (decide (ret15v.2 = (0 : Int)))) && (decide ((1 : Int) ≤ ret9v.1))) = true → InR ((((4 : Int) * n) + (2 : Int)) * ret9v.1)) ∧ K ((((decide (ret9v.2 = (0 : Int))) && (decide (ret15v.2 = (0 : Int)))) && (decide ((1 : Int) ≤ ret9v.1))) && (decide (((n + (2 : Int)) * ret15v.1) = ((((4 : Int) * n) + (2 : Int)) * ret9v.1))))))) := h
  refine awl_runp 5 [0, 3, 4, 5, 6] [] (ob := (True ∧ True ∧ True ∧ True ∧ True ∧ True)) (st' := (⟨52, [(0, [], .v (.c (.p (.int .i64) n))), (3, [], .v (.c (.p (.int .i64) ret9v.1))), (4, [], .v (.c (.p (.int .i64) ret9v.2))), (5, [], .v (.c (.p (.int .i64) ret15v.1))), (6, [], .v (.c (.p (.int .i64) ret15v.2)))], []⟩ : St)) (by kernel_rfl) ⟨trivial, trivial, trivial, trivial, trivial, trivial⟩ ?_
  refine awl_nil ?_
  refine thenQ_n ?_
  refine aw_seq ?_
  refine aw_seq ?_
  refine aw_region ?_
  refine awl_runp 6 [0, 3, 4, 5, 6, 23] [] (ob := (True ∧ True ∧ True ∧ ((decide (n < (0 : Int))) = false → True) ∧ ((decide (n < (0 : Int))) = false → True) ∧ True ∧ True)) (st' := (⟨52, [(0, [], .v (.c (.p (.int .i64) n))), (3, [], .v (.c (.p (.int .i64) ret9v.1))), (4, [], .v (.c (.p (.int .i64) ret9v.2))), (5, [], .v (.c (.p (.int .i64) ret15v.1))), (6, [], .v (.c (.p (.int .i64) ret15v.2))), (23, [], .v (.c (.p .bool ((decide (n < (0 : Int))) || (decide ((8 : Int) ≤ n))))))], []⟩ : St)) (by kernel_rfl) ⟨trivial, trivial, trivial, (fun _ => trivial), (fun _ => trivial), trivial, trivial⟩ ?_
  refine awl_nil ?_
  refine thenQ_n ?_
  refine aw_cond (b := ((decide (n < (0 : Int))) || (decide ((8 : Int) ≤ n)))) (by kernel_rfl) (fun hb => ?_) (fun hb => ?_)
  · have h := h.1 hb
    refine aw_seq ?_
    refine aw_region ?_
    refine awl_runp 7 [2] [] (ob := (True ∧ True ∧ True ∧ ((!decide (ret15v.2 = (0 : Int))) = false → True) ∧ ((!decide (ret15v.2 = (0 : Int))) = false → True) ∧ True ∧ True ∧ True)) (st' := (⟨52, [(2, [], .v (.c (.p .bool ((!decide (ret15v.2 = (0 : Int))) || (decide (n < (0 : Int)))))))], []⟩ : St)) (by kernel_rfl) ⟨trivial, trivial, trivial, (fun _ => trivial), (fun _ => trivial), trivial, trivial, trivial⟩ ?_
    refine awl_nil ?_
    refine thenQ_n ?_
    refine aw_ret ?_
    refine thenQ_r ?_
    exact retQ_r (σ := Bool) (R := (fun y => [toV1 .bool y])) (ob := (True ∧ True)) ((!decide (ret15v.2 = (0 : Int))) || (decide (n < (0 : Int)))) (by kernel_rfl) ⟨trivial, trivial⟩ h
  · have h := h.2 hb
    refine aw_skip ?_
    refine thenQ_n ?_
    refine aw_seq ?_
    refine aw_region ?_
    obtain ⟨o1, o2, o3, o4, o5, h⟩ := h
    refine awl_runp 23 [2] [] (ob := (True ∧ True ∧ True ∧ ((decide (ret9v.2 = (0 : Int))) = true → True) ∧ ((decide (ret9v.2 = (0 : Int))) = true → True) ∧ True ∧ True ∧ (((decide (ret9v.2 = (0 : Int))) && (decide (ret15v.2 = (0 : Int)))) = true → True) ∧ (((decide (ret9v.2 = (0 : Int))) && (decide (ret15v.2 = (0 : Int)))) = true → True) ∧ True ∧ True ∧ ((((decide (ret9v.2 = (0 : Int))) && (decide (ret15v.2 = (0 : Int)))) && (decide ((1 : Int) ≤ ret9v.1))) = true → True) ∧ ((((decide (ret9v.2 = (0 : Int))) && (decide (ret15v.2 = (0 : Int)))) && (decide ((1 : Int) ≤ ret9v.1))) = true → InR (n + (2 : Int))) ∧ ((((decide (ret9v.2 = (0 : Int))) && (decide (ret15v.2 = (0 : Int)))) && (decide ((1 : Int) ≤ ret9v.1))) = true → True) ∧ ((((decide (ret9v.2 = (0 : Int))) && (decide (ret15v.2 = (0 : Int)))) && (decide ((1 : Int) ≤ ret9v.1))) = true → InR ((n + (2 : Int)) * ret15v.1)) ∧ ((((decide (ret9v.2 = (0 : Int))) && (decide (ret15v.2 = (0 : Int)))) && (decide ((1 : Int) ≤ ret9v.1))) = true → True) ∧ ((((decide (ret9v.2 = (0 : Int))) && (decide (ret15v.2 = (0 : Int)))) && (decide ((1 : Int) ≤ ret9v.1))) = true → InR ((4 : Int) * n)) ∧ ((((decide (ret9v.2 = (0 : Int))) && (decide (ret15v.2 = (0 : Int)))) && (decide ((1 : Int) ≤ ret9v.1))) = true → InR (((4 : Int) * n) + (2 : Int))) ∧ ((((decide (ret9v.2 = (0 : Int))) && (decide (ret15v.2 = (0 : Int)))) && (decide ((1 : Int) ≤ ret9v.1))) = true → True) ∧ ((((decide (ret9v.2 = (0 : Int))) && (decide (ret15v.2 = (0 : Int)))) && (decide ((1 : Int) ≤ ret9v.1))) = true → InR ((((4 : Int) * n) + (2 : Int)) * ret9v.1)) ∧ ((((decide (ret9v.2 = (0 : Int))) && (decide (ret15v.2 = (0 : Int)))) && (decide ((1 : Int) ≤ ret9v.1))) = true → True) ∧ True ∧ True ∧ True)) (st' := (⟨52, [(2, [], .v (.c (.p .bool ((((decide (ret9v.2 = (0 : Int))) && (decide (ret15v.2 = (0 : Int)))) && (decide ((1 : Int) ≤ ret9v.1))) && (decide (((n + (2 : Int)) * ret15v.1) = ((((4 : Int) * n) + (2 : Int)) * ret9v.1)))))))], []⟩ : St)) (by kernel_rfl) ⟨trivial, trivial, trivial, (fun _ => trivial), (fun _ => trivial), trivial, trivial, (fun _ => trivial), (fun _ => trivial), trivial, trivial, (fun _ => trivial), o1, (fun _ => trivial), o2, (fun _ => trivial), o3, o4, (fun _ => trivial), o5, (fun _ => trivial), trivial, trivial, trivial⟩ ?_
    refine awl_nil ?_
    refine thenQ_n ?_
    refine aw_ret ?_
    exact retQ_r (σ := Bool) (R := (fun y => [toV1 .bool y])) (ob := (True ∧ True)) ((((decide (ret9v.2 = (0 : Int))) && (decide (ret15v.2 = (0 : Int)))) && (decide ((1 : Int) ≤ ret9v.1))) && (decide (((n + (2 : Int)) * ret15v.1) = ((((4 : Int) * n) + (2 : Int)) * ret9v.1)))) (by kernel_rfl) ⟨trivial, trivial⟩ h

end Dec
