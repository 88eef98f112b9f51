/-
  Printed by dec2.py: of each function its plain demand, and that the demand gives the contract.
-/
import Derived.Test.YtckghdhnmpnljaaGenVa
set_option linter.unusedVariables false
set_option linter.unusedSimpArgs false
set_option maxRecDepth 100000
namespace Dec
open Go Go.RowKit Go.Proofs

-- coppicer/coppicerref.Right
def VC87_k1 (K : Int → Prop) : Prop :=
  K (0 : Int)

def VC87_l1 (k : Int) (l : (List (Int × (Int × Int)))) (K : Int → Prop) (v9 : Int) (X1 : Int → Prop) : Prop :=
  (((decide (v9 < (l.length : Int))) = true → (inIdx v9 l.length ∧ ((((decide ((l.getD (v9).toNat ((0 : Int), ((0 : Int), (0 : Int)))).1 < (1 : Int))) || (decide ((6 : Int) < (l.getD (v9).toNat ((0 : Int), ((0 : Int), (0 : Int)))).1))) = true → K (6 : Int)) ∧ (((decide ((l.getD (v9).toNat ((0 : Int), ((0 : Int), (0 : Int)))).1 < (1 : Int))) || (decide ((6 : Int) < (l.getD (v9).toNat ((0 : Int), ((0 : Int), (0 : Int)))).1))) = false → ((((decide ((l.getD (v9).toNat ((0 : Int), ((0 : Int), (0 : Int)))).1 = (3 : Int))) && ((decide ((l.getD (v9).toNat ((0 : Int), ((0 : Int), (0 : Int)))).2.1 < (0 : Int))) || (decide (k ≤ (l.getD (v9).toNat ((0 : Int), ((0 : Int), (0 : Int)))).2.1)))) = true → K (2 : Int)) ∧ (((decide ((l.getD (v9).toNat ((0 : Int), ((0 : Int), (0 : Int)))).1 = (3 : Int))) && ((decide ((l.getD (v9).toNat ((0 : Int), ((0 : Int), (0 : Int)))).2.1 < (0 : Int))) || (decide (k ≤ (l.getD (v9).toNat ((0 : Int), ((0 : Int), (0 : Int)))).2.1)))) = false → ((((decide ((4 : Int) ≤ (l.getD (v9).toNat ((0 : Int), ((0 : Int), (0 : Int)))).1)) && ((decide ((l.getD (v9).toNat ((0 : Int), ((0 : Int), (0 : Int)))).2.1 < (0 : Int))) || (decide (v9 ≤ (l.getD (v9).toNat ((0 : Int), ((0 : Int), (0 : Int)))).2.1)))) = true → K (2 : Int)) ∧ (((decide ((4 : Int) ≤ (l.getD (v9).toNat ((0 : Int), ((0 : Int), (0 : Int)))).1)) && ((decide ((l.getD (v9).toNat ((0 : Int), ((0 : Int), (0 : Int)))).2.1 < (0 : Int))) || (decide (v9 ≤ (l.getD (v9).toNat ((0 : Int), ((0 : Int), (0 : Int)))).2.1)))) = false → (((((decide ((l.getD (v9).toNat ((0 : Int), ((0 : Int), (0 : Int)))).1 = (4 : Int))) || (decide ((l.getD (v9).toNat ((0 : Int), ((0 : Int), (0 : Int)))).1 = (5 : Int)))) && ((decide ((l.getD (v9).toNat ((0 : Int), ((0 : Int), (0 : Int)))).2.2 < (0 : Int))) || (decide (v9 ≤ (l.getD (v9).toNat ((0 : Int), ((0 : Int), (0 : Int)))).2.2)))) = true → K (2 : Int)) ∧ ((((decide ((l.getD (v9).toNat ((0 : Int), ((0 : Int), (0 : Int)))).1 = (4 : Int))) || (decide ((l.getD (v9).toNat ((0 : Int), ((0 : Int), (0 : Int)))).1 = (5 : Int)))) && ((decide ((l.getD (v9).toNat ((0 : Int), ((0 : Int), (0 : Int)))).2.2 < (0 : Int))) || (decide (v9 ≤ (l.getD (v9).toNat ((0 : Int), ((0 : Int), (0 : Int)))).2.2)))) = false → (InR (v9 + (1 : Int)) ∧ X1 (v9 + (1 : Int))))))))))))) ∧ ((decide (v9 < (l.length : Int))) = false → VC87_k1 K))

def VC87 (k : Int) (l : (List (Int × (Int × Int)))) (K : Int → Prop) : Prop :=
  Loop (σ := Int) (fun s X => VC87_l1 k l K s X) (0 : Int)

set_option maxHeartbeats 4000000 in
theorem link87 (k : Int) (l : (List (Int × (Int × Int)))) (K : Int → Prop) (h : VC87 k l K) : ACalls Try.prog 87 [toV1 (.int .i64) k, toV1 (.sl (.pr (.int .i64) (.pr (.int .i64) (.int .i64)))) l] (fun res => ∃ y, res = (fun y => [toV1 (.int .i64) y]) y ∧ K y) := by
  refine acalls_of_aw [(.int .i64)] [.t 4] Try.func87 rfl rfl rfl ?_
  unfold VC87 at h
  refine aw_seq ?_
  refine aw_region ?_
  refine awl_runp 1 [0, 1] [] (ob := (True ∧ True)) (st' := (⟨70, [(0, [], .v (.c (.p (.int .i64) k))), (1, [], .v (.c (.p (.sl (.pr (.int .i64) (.pr (.int .i64) (.int .i64)))) l)))], []⟩ : St)) (by kernel_rfl) ⟨trivial, trivial⟩ ?_
  refine awl_nil ?_
  refine thenQ_n ?_
  refine aw_seq ?_
  refine aw_seq ?_
  refine aw_region ?_
  refine awl_runp 3 [0, 7, 8, 9] [] (ob := (True ∧ True ∧ True ∧ True)) (st' := (⟨70, [(0, [], .v (.c (.p (.int .i64) k))), (7, [], .v (.c (.p (.sl (.pr (.int .i64) (.pr (.int .i64) (.int .i64)))) l))), (8, [], .v (.c (.p (.int .i64) (l.length : Int)))), (9, [], .v (.c (.p (.int .i64) (0 : Int))))], []⟩ : St)) (by kernel_rfl) ⟨trivial, trivial, trivial, trivial⟩ ?_
  refine awl_nil ?_
  refine thenQ_n ?_
  refine withJoin (σ := Unit) (fun s => (⟨70, [], []⟩ : St)) (fun s => VC87_k1 K) (fun s h => ?_) (fun rest1 => ?_)
  · have h : VC87_k1 K := h
    unfold VC87_k1 at h
    refine thenQ_n ?_
    refine aw_seq ?_
    refine aw_region ?_
    refine awl_runp 1 [4] [] (ob := (True ∧ True)) (st' := (⟨70, [(4, [], .v (.c (.p (.int .i64) (0 : Int))))], []⟩ : St)) (by kernel_rfl) ⟨trivial, trivial⟩ ?_
    refine awl_nil ?_
    refine thenQ_n ?_
    refine aw_ret ?_
    exact retQ_r (σ := Int) (R := (fun y => [toV1 (.int .i64) y])) (ob := (True ∧ True)) (0 : Int) (by kernel_rfl) ⟨trivial, trivial⟩ h
  · refine aw_block ?_
    refine aw_loop (σ := Int) (fun s => (⟨70, [(0, [], .v (.c (.p (.int .i64) k))), (7, [], .v (.c (.p (.sl (.pr (.int .i64) (.pr (.int .i64) (.int .i64)))) l))), (8, [], .v (.c (.p (.int .i64) (l.length : Int)))), (9, [], .v (.c (.p (.int .i64) s)))], []⟩ : St)) (fun s X => VC87_l1 k l K s X) (s0 := (0 : Int)) (fun v9 X1 h => ?_) h
    have h : VC87_l1 k l K v9 X1 := h
    unfold VC87_l1 at h
    refine aw_seq ?_
    refine aw_region ?_
    refine awl_runp 1 [0, 7, 8, 9, 10] [] (ob := (True ∧ True)) (st' := (⟨70, [(0, [], .v (.c (.p (.int .i64) k))), (7, [], .v (.c (.p (.sl (.pr (.int .i64) (.pr (.int .i64) (.int .i64)))) l))), (8, [], .v (.c (.p (.int .i64) (l.length : Int)))), (9, [], .v (.c (.p (.int .i64) v9))), (10, [], .v (.c (.p .bool (decide (v9 < (l.length : Int))))))], []⟩ : St)) (by kernel_rfl) ⟨trivial, trivial⟩ ?_
    refine awl_nil ?_
    refine thenQ_n ?_
    refine aw_seq ?_
    refine aw_cond (b := (decide (v9 < (l.length : Int)))) (by kernel_rfl) (fun hb => ?_) (fun hb => ?_)
    · have h := h.1 hb
      refine aw_skip ?_
      refine thenQ_n ?_
      refine aw_seq ?_
      refine aw_block ?_
      refine aw_seq ?_
      refine aw_region ?_
      obtain ⟨o1, h⟩ := h
      refine awl_runp 6 [0, 5, 6, 7, 8, 9] [6] (ob := (True ∧ inIdx v9 l.length ∧ True ∧ True ∧ True ∧ True ∧ True)) (st' := (⟨70, [(0, [], .v (.c (.p (.int .i64) k))), (5, [], .v (.c (.p (.int .i64) v9))), (6, [], .v (.c (.ptr 6 0))), (7, [], .v (.c (.p (.sl (.pr (.int .i64) (.pr (.int .i64) (.int .i64)))) l))), (8, [], .v (.c (.p (.int .i64) (l.length : Int)))), (9, [], .v (.c (.p (.int .i64) v9)))], [(6, [], .box [.p (.int .i64) ((l.getD (v9).toNat ((0 : Int), ((0 : Int), (0 : Int)))).1), .p (.int .i64) ((l.getD (v9).toNat ((0 : Int), ((0 : Int), (0 : Int)))).2.1), .p (.int .i64) ((l.getD (v9).toNat ((0 : Int), ((0 : Int), (0 : Int)))).2.2)])]⟩ : St)) (by kernel_rfl) ⟨trivial, o1, trivial, trivial, trivial, trivial, trivial⟩ ?_
      refine awl_nil ?_
      refine thenQ_n ?_
      refine aw_seq ?_
      refine aw_seq ?_
      refine aw_region ?_
      refine awl_runp 8 [0, 5, 6, 7, 8, 9, 21] [6] (ob := (True ∧ True ∧ True ∧ True ∧ ((decide ((l.getD (v9).toNat ((0 : Int), ((0 : Int), (0 : Int)))).1 < (1 : Int))) = false → True) ∧ ((decide ((l.getD (v9).toNat ((0 : Int), ((0 : Int), (0 : Int)))).1 < (1 : Int))) = false → True) ∧ ((decide ((l.getD (v9).toNat ((0 : Int), ((0 : Int), (0 : Int)))).1 < (1 : Int))) = false → True) ∧ True ∧ True)) (st' := (⟨70, [(0, [], .v (.c (.p (.int .i64) k))), (5, [], .v (.c (.p (.int .i64) v9))), (6, [], .v (.c (.ptr 6 0))), (7, [], .v (.c (.p (.sl (.pr (.int .i64) (.pr (.int .i64) (.int .i64)))) l))), (8, [], .v (.c (.p (.int .i64) (l.length : Int)))), (9, [], .v (.c (.p (.int .i64) v9))), (21, [], .v (.c (.p .bool ((decide ((l.getD (v9).toNat ((0 : Int), ((0 : Int), (0 : Int)))).1 < (1 : Int))) || (decide ((6 : Int) < (l.getD (v9).toNat ((0 : Int), ((0 : Int), (0 : Int)))).1))))))], [(6, [], .box [.p (.int .i64) ((l.getD (v9).toNat ((0 : Int), ((0 : Int), (0 : Int)))).1), .p (.int .i64) ((l.getD (v9).toNat ((0 : Int), ((0 : Int), (0 : Int)))).2.1), .p (.int .i64) ((l.getD (v9).toNat ((0 : Int), ((0 : Int), (0 : Int)))).2.2)])]⟩ : St)) (by kernel_rfl) ⟨trivial, trivial, trivial, trivial, (fun _ => trivial), (fun _ => trivial), (fun _ => trivial), trivial, trivial⟩ ?_
      refine awl_nil ?_
      refine thenQ_n ?_
      refine aw_cond (b := ((decide ((l.getD (v9).toNat ((0 : Int), ((0 : Int), (0 : Int)))).1 < (1 : Int))) || (decide ((6 : Int) < (l.getD (v9).toNat ((0 : Int), ((0 : Int), (0 : Int)))).1)))) (by kernel_rfl) (fun hb => ?_) (fun hb => ?_)
      · have h := h.1 hb
        refine aw_seq ?_
        refine aw_region ?_
        refine awl_runp 1 [4] [] (ob := (True ∧ True)) (st' := (⟨70, [(4, [], .v (.c (.p (.int .i64) (6 : Int))))], []⟩ : St)) (by kernel_rfl) ⟨trivial, trivial⟩ ?_
        refine awl_nil ?_
        refine thenQ_n ?_
        refine aw_ret ?_
        refine thenQ_r ?_
        refine blockQ_r ?_
        refine thenQ_r ?_
        refine thenQ_r ?_
        refine blockQ_r ?_
        refine thenQ_r ?_
        exact retQ_r (σ := Int) (R := (fun y => [toV1 (.int .i64) y])) (ob := (True ∧ True)) (6 : Int) (by kernel_rfl) ⟨trivial, trivial⟩ h
      · have h := h.2 hb
        refine aw_skip ?_
        refine thenQ_n ?_
        refine aw_seq ?_
        refine aw_seq ?_
        refine aw_region ?_
        refine awl_runp 14 [0, 5, 6, 7, 8, 9, 35] [6] (ob := (True ∧ True ∧ True ∧ True ∧ ((decide ((l.getD (v9).toNat ((0 : Int), ((0 : Int), (0 : Int)))).1 = (3 : Int))) = true → True) ∧ ((decide ((l.getD (v9).toNat ((0 : Int), ((0 : Int), (0 : Int)))).1 = (3 : Int))) = true → True) ∧ ((decide ((l.getD (v9).toNat ((0 : Int), ((0 : Int), (0 : Int)))).1 = (3 : Int))) = true → True) ∧ ((decide ((l.getD (v9).toNat ((0 : Int), ((0 : Int), (0 : Int)))).1 = (3 : Int))) = true → True) ∧ ((decide ((l.getD (v9).toNat ((0 : Int), ((0 : Int), (0 : Int)))).1 = (3 : Int))) = true → ((decide ((l.getD (v9).toNat ((0 : Int), ((0 : Int), (0 : Int)))).2.1 < (0 : Int))) = false → True)) ∧ ((decide ((l.getD (v9).toNat ((0 : Int), ((0 : Int), (0 : Int)))).1 = (3 : Int))) = true → ((decide ((l.getD (v9).toNat ((0 : Int), ((0 : Int), (0 : Int)))).2.1 < (0 : Int))) = false → True)) ∧ ((decide ((l.getD (v9).toNat ((0 : Int), ((0 : Int), (0 : Int)))).1 = (3 : Int))) = true → ((decide ((l.getD (v9).toNat ((0 : Int), ((0 : Int), (0 : Int)))).2.1 < (0 : Int))) = false → True)) ∧ ((decide ((l.getD (v9).toNat ((0 : Int), ((0 : Int), (0 : Int)))).1 = (3 : Int))) = true → ((decide ((l.getD (v9).toNat ((0 : Int), ((0 : Int), (0 : Int)))).2.1 < (0 : Int))) = false → True)) ∧ ((decide ((l.getD (v9).toNat ((0 : Int), ((0 : Int), (0 : Int)))).1 = (3 : Int))) = true → True) ∧ True ∧ True)) (st' := (⟨70, [(0, [], .v (.c (.p (.int .i64) k))), (5, [], .v (.c (.p (.int .i64) v9))), (6, [], .v (.c (.ptr 6 0))), (7, [], .v (.c (.p (.sl (.pr (.int .i64) (.pr (.int .i64) (.int .i64)))) l))), (8, [], .v (.c (.p (.int .i64) (l.length : Int)))), (9, [], .v (.c (.p (.int .i64) v9))), (35, [], .v (.c (.p .bool ((decide ((l.getD (v9).toNat ((0 : Int), ((0 : Int), (0 : Int)))).1 = (3 : Int))) && ((decide ((l.getD (v9).toNat ((0 : Int), ((0 : Int), (0 : Int)))).2.1 < (0 : Int))) || (decide (k ≤ (l.getD (v9).toNat ((0 : Int), ((0 : Int), (0 : Int)))).2.1)))))))], [(6, [], .box [.p (.int .i64) ((l.getD (v9).toNat ((0 : Int), ((0 : Int), (0 : Int)))).1), .p (.int .i64) ((l.getD (v9).toNat ((0 : Int), ((0 : Int), (0 : Int)))).2.1), .p (.int .i64) ((l.getD (v9).toNat ((0 : Int), ((0 : Int), (0 : Int)))).2.2)])]⟩ : St)) (by kernel_rfl) ⟨trivial, trivial, trivial, trivial, (fun _ => trivial), (fun _ => trivial), (fun _ => trivial), (fun _ => trivial), (fun _ _ => trivial), (fun _ _ => trivial), (fun _ _ => trivial), (fun _ _ => trivial), (fun _ => trivial), trivial, trivial⟩ ?_
        refine awl_nil ?_
        refine thenQ_n ?_
        refine aw_cond (b := ((decide ((l.getD (v9).toNat ((0 : Int), ((0 : Int), (0 : Int)))).1 = (3 : Int))) && ((decide ((l.getD (v9).toNat ((0 : Int), ((0 : Int), (0 : Int)))).2.1 < (0 : Int))) || (decide (k ≤ (l.getD (v9).toNat ((0 : Int), ((0 : Int), (0 : Int)))).2.1))))) (by kernel_rfl) (fun hb => ?_) (fun hb => ?_)
        · have h := h.1 hb
          refine aw_seq ?_
          refine aw_region ?_
          refine awl_runp 1 [4] [] (ob := (True ∧ True)) (st' := (⟨70, [(4, [], .v (.c (.p (.int .i64) (2 : Int))))], []⟩ : St)) (by kernel_rfl) ⟨trivial, trivial⟩ ?_
          refine awl_nil ?_
          refine thenQ_n ?_
          refine aw_ret ?_
          refine thenQ_r ?_
          refine blockQ_r ?_
          refine thenQ_r ?_
          refine thenQ_r ?_
          refine blockQ_r ?_
          refine thenQ_r ?_
          exact retQ_r (σ := Int) (R := (fun y => [toV1 (.int .i64) y])) (ob := (True ∧ True)) (2 : Int) (by kernel_rfl) ⟨trivial, trivial⟩ h
        · have h := h.2 hb
          refine aw_skip ?_
          refine thenQ_n ?_
          refine aw_seq ?_
          refine aw_seq ?_
          refine aw_region ?_
          refine awl_runp 14 [0, 5, 6, 7, 8, 9, 49] [6] (ob := (True ∧ True ∧ True ∧ True ∧ ((decide ((4 : Int) ≤ (l.getD (v9).toNat ((0 : Int), ((0 : Int), (0 : Int)))).1)) = true → True) ∧ ((decide ((4 : Int) ≤ (l.getD (v9).toNat ((0 : Int), ((0 : Int), (0 : Int)))).1)) = true → True) ∧ ((decide ((4 : Int) ≤ (l.getD (v9).toNat ((0 : Int), ((0 : Int), (0 : Int)))).1)) = true → True) ∧ ((decide ((4 : Int) ≤ (l.getD (v9).toNat ((0 : Int), ((0 : Int), (0 : Int)))).1)) = true → True) ∧ ((decide ((4 : Int) ≤ (l.getD (v9).toNat ((0 : Int), ((0 : Int), (0 : Int)))).1)) = true → ((decide ((l.getD (v9).toNat ((0 : Int), ((0 : Int), (0 : Int)))).2.1 < (0 : Int))) = false → True)) ∧ ((decide ((4 : Int) ≤ (l.getD (v9).toNat ((0 : Int), ((0 : Int), (0 : Int)))).1)) = true → ((decide ((l.getD (v9).toNat ((0 : Int), ((0 : Int), (0 : Int)))).2.1 < (0 : Int))) = false → True)) ∧ ((decide ((4 : Int) ≤ (l.getD (v9).toNat ((0 : Int), ((0 : Int), (0 : Int)))).1)) = true → ((decide ((l.getD (v9).toNat ((0 : Int), ((0 : Int), (0 : Int)))).2.1 < (0 : Int))) = false → True)) ∧ ((decide ((4 : Int) ≤ (l.getD (v9).toNat ((0 : Int), ((0 : Int), (0 : Int)))).1)) = true → ((decide ((l.getD (v9).toNat ((0 : Int), ((0 : Int), (0 : Int)))).2.1 < (0 : Int))) = false → True)) ∧ ((decide ((4 : Int) ≤ (l.getD (v9).toNat ((0 : Int), ((0 : Int), (0 : Int)))).1)) = true → True) ∧ True ∧ True)) (st' := (⟨70, [(0, [], .v (.c (.p (.int .i64) k))), (5, [], .v (.c (.p (.int .i64) v9))), (6, [], .v (.c (.ptr 6 0))), (7, [], .v (.c (.p (.sl (.pr (.int .i64) (.pr (.int .i64) (.int .i64)))) l))), (8, [], .v (.c (.p (.int .i64) (l.length : Int)))), (9, [], .v (.c (.p (.int .i64) v9))), (49, [], .v (.c (.p .bool ((decide ((4 : Int) ≤ (l.getD (v9).toNat ((0 : Int), ((0 : Int), (0 : Int)))).1)) && ((decide ((l.getD (v9).toNat ((0 : Int), ((0 : Int), (0 : Int)))).2.1 < (0 : Int))) || (decide (v9 ≤ (l.getD (v9).toNat ((0 : Int), ((0 : Int), (0 : Int)))).2.1)))))))], [(6, [], .box [.p (.int .i64) ((l.getD (v9).toNat ((0 : Int), ((0 : Int), (0 : Int)))).1), .p (.int .i64) ((l.getD (v9).toNat ((0 : Int), ((0 : Int), (0 : Int)))).2.1), .p (.int .i64) ((l.getD (v9).toNat ((0 : Int), ((0 : Int), (0 : Int)))).2.2)])]⟩ : St)) (by kernel_rfl) ⟨trivial, trivial, trivial, trivial, (fun _ => trivial), (fun _ => trivial), (fun _ => trivial), (fun _ => trivial), (fun _ _ => trivial), (fun _ _ => trivial), (fun _ _ => trivial), (fun _ _ => trivial), (fun _ => trivial), trivial, trivial⟩ ?_
          refine awl_nil ?_
          refine thenQ_n ?_
          refine aw_cond (b := ((decide ((4 : Int) ≤ (l.getD (v9).toNat ((0 : Int), ((0 : Int), (0 : Int)))).1)) && ((decide ((l.getD (v9).toNat ((0 : Int), ((0 : Int), (0 : Int)))).2.1 < (0 : Int))) || (decide (v9 ≤ (l.getD (v9).toNat ((0 : Int), ((0 : Int), (0 : Int)))).2.1))))) (by kernel_rfl) (fun hb => ?_) (fun hb => ?_)
          · have h := h.1 hb
            refine aw_seq ?_
            refine aw_region ?_
            refine awl_runp 1 [4] [] (ob := (True ∧ True)) (st' := (⟨70, [(4, [], .v (.c (.p (.int .i64) (2 : Int))))], []⟩ : St)) (by kernel_rfl) ⟨trivial, trivial⟩ ?_
            refine awl_nil ?_
            refine thenQ_n ?_
            refine aw_ret ?_
            refine thenQ_r ?_
            refine blockQ_r ?_
            refine thenQ_r ?_
            refine thenQ_r ?_
            refine blockQ_r ?_
            refine thenQ_r ?_
            exact retQ_r (σ := Int) (R := (fun y => [toV1 (.int .i64) y])) (ob := (True ∧ True)) (2 : Int) (by kernel_rfl) ⟨trivial, trivial⟩ h
          · have h := h.2 hb
            refine aw_skip ?_
            refine thenQ_n ?_
            refine aw_seq ?_
            refine aw_region ?_
            refine awl_runp 19 [0, 7, 8, 9, 68] [] (ob := (True ∧ True ∧ True ∧ True ∧ ((decide ((l.getD (v9).toNat ((0 : Int), ((0 : Int), (0 : Int)))).1 = (4 : Int))) = false → True) ∧ ((decide ((l.getD (v9).toNat ((0 : Int), ((0 : Int), (0 : Int)))).1 = (4 : Int))) = false → True) ∧ ((decide ((l.getD (v9).toNat ((0 : Int), ((0 : Int), (0 : Int)))).1 = (4 : Int))) = false → True) ∧ True ∧ True ∧ (((decide ((l.getD (v9).toNat ((0 : Int), ((0 : Int), (0 : Int)))).1 = (4 : Int))) || (decide ((l.getD (v9).toNat ((0 : Int), ((0 : Int), (0 : Int)))).1 = (5 : Int)))) = true → True) ∧ (((decide ((l.getD (v9).toNat ((0 : Int), ((0 : Int), (0 : Int)))).1 = (4 : Int))) || (decide ((l.getD (v9).toNat ((0 : Int), ((0 : Int), (0 : Int)))).1 = (5 : Int)))) = true → True) ∧ (((decide ((l.getD (v9).toNat ((0 : Int), ((0 : Int), (0 : Int)))).1 = (4 : Int))) || (decide ((l.getD (v9).toNat ((0 : Int), ((0 : Int), (0 : Int)))).1 = (5 : Int)))) = true → True) ∧ (((decide ((l.getD (v9).toNat ((0 : Int), ((0 : Int), (0 : Int)))).1 = (4 : Int))) || (decide ((l.getD (v9).toNat ((0 : Int), ((0 : Int), (0 : Int)))).1 = (5 : Int)))) = true → True) ∧ (((decide ((l.getD (v9).toNat ((0 : Int), ((0 : Int), (0 : Int)))).1 = (4 : Int))) || (decide ((l.getD (v9).toNat ((0 : Int), ((0 : Int), (0 : Int)))).1 = (5 : Int)))) = true → ((decide ((l.getD (v9).toNat ((0 : Int), ((0 : Int), (0 : Int)))).2.2 < (0 : Int))) = false → True)) ∧ (((decide ((l.getD (v9).toNat ((0 : Int), ((0 : Int), (0 : Int)))).1 = (4 : Int))) || (decide ((l.getD (v9).toNat ((0 : Int), ((0 : Int), (0 : Int)))).1 = (5 : Int)))) = true → ((decide ((l.getD (v9).toNat ((0 : Int), ((0 : Int), (0 : Int)))).2.2 < (0 : Int))) = false → True)) ∧ (((decide ((l.getD (v9).toNat ((0 : Int), ((0 : Int), (0 : Int)))).1 = (4 : Int))) || (decide ((l.getD (v9).toNat ((0 : Int), ((0 : Int), (0 : Int)))).1 = (5 : Int)))) = true → ((decide ((l.getD (v9).toNat ((0 : Int), ((0 : Int), (0 : Int)))).2.2 < (0 : Int))) = false → True)) ∧ (((decide ((l.getD (v9).toNat ((0 : Int), ((0 : Int), (0 : Int)))).1 = (4 : Int))) || (decide ((l.getD (v9).toNat ((0 : Int), ((0 : Int), (0 : Int)))).1 = (5 : Int)))) = true → ((decide ((l.getD (v9).toNat ((0 : Int), ((0 : Int), (0 : Int)))).2.2 < (0 : Int))) = false → True)) ∧ (((decide ((l.getD (v9).toNat ((0 : Int), ((0 : Int), (0 : Int)))).1 = (4 : Int))) || (decide ((l.getD (v9).toNat ((0 : Int), ((0 : Int), (0 : Int)))).1 = (5 : Int)))) = true → True) ∧ True ∧ True)) (st' := (⟨70, [(0, [], .v (.c (.p (.int .i64) k))), (7, [], .v (.c (.p (.sl (.pr (.int .i64) (.pr (.int .i64) (.int .i64)))) l))), (8, [], .v (.c (.p (.int .i64) (l.length : Int)))), (9, [], .v (.c (.p (.int .i64) v9))), (68, [], .v (.c (.p .bool (((decide ((l.getD (v9).toNat ((0 : Int), ((0 : Int), (0 : Int)))).1 = (4 : Int))) || (decide ((l.getD (v9).toNat ((0 : Int), ((0 : Int), (0 : Int)))).1 = (5 : Int)))) && ((decide ((l.getD (v9).toNat ((0 : Int), ((0 : Int), (0 : Int)))).2.2 < (0 : Int))) || (decide (v9 ≤ (l.getD (v9).toNat ((0 : Int), ((0 : Int), (0 : Int)))).2.2)))))))], []⟩ : St)) (by kernel_rfl) ⟨trivial, trivial, trivial, trivial, (fun _ => trivial), (fun _ => trivial), (fun _ => trivial), trivial, trivial, (fun _ => trivial), (fun _ => trivial), (fun _ => trivial), (fun _ => trivial), (fun _ _ => trivial), (fun _ _ => trivial), (fun _ _ => trivial), (fun _ _ => trivial), (fun _ => trivial), trivial, trivial⟩ ?_
            refine awl_nil ?_
            refine thenQ_n ?_
            refine aw_cond (b := (((decide ((l.getD (v9).toNat ((0 : Int), ((0 : Int), (0 : Int)))).1 = (4 : Int))) || (decide ((l.getD (v9).toNat ((0 : Int), ((0 : Int), (0 : Int)))).1 = (5 : Int)))) && ((decide ((l.getD (v9).toNat ((0 : Int), ((0 : Int), (0 : Int)))).2.2 < (0 : Int))) || (decide (v9 ≤ (l.getD (v9).toNat ((0 : Int), ((0 : Int), (0 : Int)))).2.2))))) (by kernel_rfl) (fun hb => ?_) (fun hb => ?_)
            · have h := h.1 hb
              refine aw_seq ?_
              refine aw_region ?_
              refine awl_runp 1 [4] [] (ob := (True ∧ True)) (st' := (⟨70, [(4, [], .v (.c (.p (.int .i64) (2 : Int))))], []⟩ : St)) (by kernel_rfl) ⟨trivial, trivial⟩ ?_
              refine awl_nil ?_
              refine thenQ_n ?_
              refine aw_ret ?_
              refine blockQ_r ?_
              refine thenQ_r ?_
              refine thenQ_r ?_
              refine blockQ_r ?_
              refine thenQ_r ?_
              exact retQ_r (σ := Int) (R := (fun y => [toV1 (.int .i64) y])) (ob := (True ∧ True)) (2 : Int) (by kernel_rfl) ⟨trivial, trivial⟩ h
            · have h := h.2 hb
              refine aw_skip ?_
              refine blockQ_n ?_
              refine thenQ_n ?_
              refine aw_region ?_
              obtain ⟨o1, h⟩ := h
              refine awl_runp 2 [0, 7, 8, 9] [] (ob := (InR (v9 + (1 : Int)) ∧ True ∧ True)) (st' := (⟨70, [(0, [], .v (.c (.p (.int .i64) k))), (7, [], .v (.c (.p (.sl (.pr (.int .i64) (.pr (.int .i64) (.int .i64)))) l))), (8, [], .v (.c (.p (.int .i64) (l.length : Int)))), (9, [], .v (.c (.p (.int .i64) (v9 + (1 : Int)))))], []⟩ : St)) (by kernel_rfl) ⟨o1, trivial, trivial⟩ ?_
              refine awl_nil ?_
              exact thenQ_n ⟨(v9 + (1 : Int)), rfl, h⟩
    · have h := h.2 hb
      refine aw_conv [.prune [] []] (st' := (⟨70, [], []⟩ : St)) (by kernel_rfl) ?_
      refine aw_exit ?_
      refine thenQ_x ?_
      refine thenQ_x ?_
      refine blockQ_hit ?_
      exact rest1 () h

-- coppicer/coppicerref.SentenceCheck
def VC47 (k : Int) (l : (List (Int × (Int × Int)))) (K : Int → Prop) : Prop :=
  ((((((decide (k < (1 : Int))) || (decide ((3 : Int) < k))) || (decide ((l.length : Int) = (0 : Int)))) || (decide ((9 : Int) < (l.length : Int)))) = true → K (1 : Int)) ∧ (((((decide (k < (1 : Int))) || (decide ((3 : Int) < k))) || (decide ((l.length : Int) = (0 : Int)))) || (decide ((9 : Int) < (l.length : Int)))) = false → VC87 k l (fun (ret23v : Int) => K ret23v)))

set_option maxHeartbeats 4000000 in
theorem link47 (k : Int) (l : (List (Int × (Int × Int)))) (K : Int → Prop) (h : VC47 k l K) : ACalls Try.prog 47 [toV1 (.int .i64) k, toV1 (.sl (.pr (.int .i64) (.pr (.int .i64) (.int .i64)))) l] (fun res => ∃ y, res = (fun y => [toV1 (.int .i64) y]) y ∧ K y) := by
  refine acalls_of_aw [(.int .i64)] [.t 4] Try.func47 rfl rfl rfl ?_
  unfold VC47 at h
  refine aw_seq ?_
  refine aw_region ?_
  refine awl_runp 1 [0, 1] [] (ob := (True ∧ True)) (st' := (⟨24, [(0, [], .v (.c (.p (.int .i64) k))), (1, [], .v (.c (.p (.sl (.pr (.int .i64) (.pr (.int .i64) (.int .i64)))) l)))], []⟩ : St)) (by kernel_rfl) ⟨trivial, trivial⟩ ?_
  refine awl_nil ?_
  refine thenQ_n ?_
  refine aw_seq ?_
  refine aw_seq ?_
  refine aw_region ?_
  refine awl_runp 16 [0, 1, 20] [] (ob := (True ∧ True ∧ True ∧ ((decide (k < (1 : Int))) = false → True) ∧ ((decide (k < (1 : Int))) = false → True) ∧ True ∧ True ∧ (((decide (k < (1 : Int))) || (decide ((3 : Int) < k))) = false → True) ∧ (((decide (k < (1 : Int))) || (decide ((3 : Int) < k))) = false → True) ∧ (((decide (k < (1 : Int))) || (decide ((3 : Int) < k))) = false → True) ∧ True ∧ True ∧ ((((decide (k < (1 : Int))) || (decide ((3 : Int) < k))) || (decide ((l.length : Int) = (0 : Int)))) = false → True) ∧ ((((decide (k < (1 : Int))) || (decide ((3 : Int) < k))) || (decide ((l.length : Int) = (0 : Int)))) = false → True) ∧ ((((decide (k < (1 : Int))) || (decide ((3 : Int) < k))) || (decide ((l.length : Int) = (0 : Int)))) = false → True) ∧ True ∧ True)) (st' := (⟨24, [(0, [], .v (.c (.p (.int .i64) k))), (1, [], .v (.c (.p (.sl (.pr (.int .i64) (.pr (.int .i64) (.int .i64)))) l))), (20, [], .v (.c (.p .bool ((((decide (k < (1 : Int))) || (decide ((3 : Int) < k))) || (decide ((l.length : Int) = (0 : Int)))) || (decide ((9 : Int) < (l.length : Int)))))))], []⟩ : St)) (by kernel_rfl) ⟨trivial, trivial, trivial, (fun _ => trivial), (fun _ => trivial), trivial, trivial, (fun _ => trivial), (fun _ => trivial), (fun _ => trivial), trivial, trivial, (fun _ => trivial), (fun _ => trivial), (fun _ => trivial), trivial, trivial⟩ ?_
  refine awl_nil ?_
  refine thenQ_n ?_
  refine aw_cond (b := ((((decide (k < (1 : Int))) || (decide ((3 : Int) < k))) || (decide ((l.length : Int) = (0 : Int)))) || (decide ((9 : Int) < (l.length : Int))))) (by kernel_rfl) (fun hb => ?_) (fun hb => ?_)
  · have h := h.1 hb
    refine aw_seq ?_
    refine aw_region ?_
    refine awl_runp 1 [4] [] (ob := (True ∧ True)) (st' := (⟨24, [(4, [], .v (.c (.p (.int .i64) (1 : Int))))], []⟩ : St)) (by kernel_rfl) ⟨trivial, trivial⟩ ?_
    refine awl_nil ?_
    refine thenQ_n ?_
    refine aw_ret ?_
    refine thenQ_r ?_
    exact retQ_r (σ := Int) (R := (fun y => [toV1 (.int .i64) y])) (ob := (True ∧ True)) (1 : Int) (by kernel_rfl) ⟨trivial, trivial⟩ h
  · have h := h.2 hb
    refine aw_skip ?_
    refine thenQ_n ?_
    refine aw_seq ?_
    refine aw_region ?_
    refine awl_runp 2 [21, 22] [] (ob := (True ∧ True ∧ True)) (st' := (⟨24, [(21, [], .v (.c (.p (.int .i64) k))), (22, [], .v (.c (.p (.sl (.pr (.int .i64) (.pr (.int .i64) (.int .i64)))) l)))], []⟩ : St)) (by kernel_rfl) ⟨trivial, trivial, trivial⟩ ?_
    refine awl_callk (p := []) (l := [toV1 (.int .i64) k, toV1 (.sl (.pr (.int .i64) (.pr (.int .i64) (.int .i64)))) l]) (cl := []) false [.d (.int .i64), .d (.sl (.pr (.int .i64) (.pr (.int .i64) (.int .i64))))] [23] [] (fun (ret23v : Int) => K ret23v) (fun ret23v => [toV1 (.int .i64) ret23v]) (fun ret23v => (⟨24, [(23, [], .v (.c (.p (.int .i64) ret23v)))], []⟩ : St)) (by kernel_rfl) rfl (by kernel_rfl) rfl (by kernel_rfl) Try.call87 (by kernel_rfl) (fun ret23v => by kernel_rfl) (fun e => by cases e) (fun hg => link87 k l _ h) (fun hg => noF hg) (fun ret23v h => ?_)
    have h : K ret23v := h
    refine awl_runp 1 [4] [] (ob := (True ∧ True)) (st' := (⟨24, [(4, [], .v (.c (.p (.int .i64) ret23v)))], []⟩ : St)) (by kernel_rfl) ⟨trivial, trivial⟩ ?_
    refine awl_nil ?_
    refine thenQ_n ?_
    refine aw_ret ?_
    exact retQ_r (σ := Int) (R := (fun y => [toV1 (.int .i64) y])) (ob := (True ∧ True)) ret23v (by kernel_rfl) ⟨trivial, trivial⟩ h

-- coppicer/coppicerkeep.said
def VC24 (k : Int) (l : (List (Int × (Int × Int)))) (w : (List Int)) (K : Bool → Prop) : Prop :=
  VC47 k l (fun (ret9v : Int) => gcall (α := Int) (decide (ret9v = (0 : Int))) (VC16 k w) (0 : Int) (fun (ret14v : Int) => K ((decide (ret9v = (0 : Int))) && (decide (ret14v = (0 : Int))))))

set_option maxHeartbeats 4000000 in
theorem link24 (k : Int) (l : (List (Int × (Int × Int)))) (w : (List Int)) (K : Bool → Prop) (h : VC24 k l w K) : ACalls Try.prog 24 [toV1 (.int .i64) k, toV1 (.sl (.pr (.int .i64) (.pr (.int .i64) (.int .i64)))) l, toV1 (.sl (.int .i64)) w] (fun res => ∃ y, res = (fun y => [toV1 .bool y]) y ∧ K y) := by
  refine acalls_of_aw [.bool] [.t 6] Try.func24 rfl rfl rfl ?_
  unfold VC24 at h
  refine aw_seq ?_
  refine aw_region ?_
  refine awl_runp 1 [0, 1, 2] [] (ob := (True ∧ True)) (st' := (⟨17, [(0, [], .v (.c (.p (.int .i64) k))), (1, [], .v (.c (.p (.sl (.pr (.int .i64) (.pr (.int .i64) (.int .i64)))) l))), (2, [], .v (.c (.p (.sl (.int .i64)) w)))], []⟩ : St)) (by kernel_rfl) ⟨trivial, trivial⟩ ?_
  refine awl_nil ?_
  refine thenQ_n ?_
  refine aw_seq ?_
  refine aw_region ?_
  refine awl_runp 2 [0, 2, 7, 8] [] (ob := (True ∧ True ∧ True)) (st' := (⟨17, [(0, [], .v (.c (.p (.int .i64) k))), (2, [], .v (.c (.p (.sl (.int .i64)) w))), (7, [], .v (.c (.p (.int .i64) k))), (8, [], .v (.c (.p (.sl (.pr (.int .i64) (.pr (.int .i64) (.int .i64)))) l)))], []⟩ : St)) (by kernel_rfl) ⟨trivial, trivial, trivial⟩ ?_
  refine awl_callk (p := []) (l := [toV1 (.int .i64) k, toV1 (.sl (.pr (.int .i64) (.pr (.int .i64) (.int .i64)))) l]) (cl := []) false [.d (.int .i64), .d (.sl (.pr (.int .i64) (.pr (.int .i64) (.int .i64))))] [0, 2, 9] [] (fun (ret9v : Int) => gcall (α := Int) (decide (ret9v = (0 : Int))) (VC16 k w) (0 : Int) (fun (ret14v : Int) => K ((decide (ret9v = (0 : Int))) && (decide (ret14v = (0 : Int)))))) (fun ret9v => [toV1 (.int .i64) ret9v]) (fun ret9v => (⟨17, [(0, [], .v (.c (.p (.int .i64) k))), (2, [], .v (.c (.p (.sl (.int .i64)) w))), (9, [], .v (.c (.p (.int .i64) ret9v)))], []⟩ : St)) (by kernel_rfl) rfl (by kernel_rfl) rfl (by kernel_rfl) Try.call47 (by kernel_rfl) (fun ret9v => by kernel_rfl) (fun e => by cases e) (fun hg => link47 k l _ h) (fun hg => noF hg) (fun ret9v h => ?_)
  have h : gcall (α := Int) (decide (ret9v = (0 : Int))) (VC16 k w) (0 : Int) (fun (ret14v : Int) => K ((decide (ret9v = (0 : Int))) && (decide (ret14v = (0 : Int))))) := h
  refine awl_runp 4 [11, 12, 13] [] (ob := (True ∧ True ∧ ((decide (ret9v = (0 : Int))) = true → True) ∧ ((decide (ret9v = (0 : Int))) = true → True) ∧ True)) (st' := (⟨17, [(11, [], .v (.c (.p .bool (decide (ret9v = (0 : Int)))))), (12, [(11, true)], .v (.c (.p (.int .i64) k))), (13, [(11, true)], .v (.c (.p (.sl (.int .i64)) w)))], []⟩ : St)) (by kernel_rfl) ⟨trivial, trivial, (fun _ => trivial), (fun _ => trivial), trivial⟩ ?_
  refine awl_callk (p := [(11, true)]) (l := [toV1 (.int .i64) k, toV1 (.sl (.int .i64)) w]) (cl := []) false [.d (.int .i64), .d (.sl (.int .i64))] [11, 14] [] (fun (ret14v : Int) => K ((decide (ret9v = (0 : Int))) && (decide (ret14v = (0 : Int))))) (fun ret14v => [toV1 (.int .i64) ret14v]) (fun ret14v => (⟨17, [(11, [], .v (.c (.p .bool (decide (ret9v = (0 : Int)))))), (14, [(11, true)], .v (.c (.p (.int .i64) ret14v)))], []⟩ : St)) (by kernel_rfl) rfl (by kernel_rfl) rfl (by kernel_rfl) Try.call16 (by kernel_rfl) (fun ret14v => by kernel_rfl) (fun e => by cases e) (fun hg => link16 k w _ (by have := gcall_T h (show (decide (ret9v = (0 : Int))) = true from hg); exact this)) (fun hg => ⟨(0 : Int), by have := gcall_F h (show (decide (ret9v = (0 : Int))) = false from hg); exact this⟩) (fun ret14v h => ?_)
  have h : K ((decide (ret9v = (0 : Int))) && (decide (ret14v = (0 : Int)))) := h
  refine awl_runp 3 [6] [] (ob := (((decide (ret9v = (0 : Int))) = true → True) ∧ True ∧ True ∧ True)) (st' := (⟨17, [(6, [], .v (.c (.p .bool ((decide (ret9v = (0 : Int))) && (decide (ret14v = (0 : Int)))))))], []⟩ : St)) (by kernel_rfl) ⟨(fun _ => trivial), trivial, trivial, trivial⟩ ?_
  refine awl_nil ?_
  refine thenQ_n ?_
  refine aw_ret ?_
  exact retQ_r (σ := Bool) (R := (fun y => [toV1 .bool y])) (ob := (True ∧ True)) ((decide (ret9v = (0 : Int))) && (decide (ret14v = (0 : Int)))) (by kernel_rfl) ⟨trivial, trivial⟩ h

-- coppicer/coppicerkeep.SentenceStar
def VC6 (k : Int) (l : (List (Int × (Int × Int)))) (w : (List Int)) (K : Bool → Prop) : Prop :=
  (roomN (([] : List (Int × (Int × Int))).length + l.length) ∧ InR ((l.length : Int) - (1 : Int)) ∧ roomN ((([] : List (Int × (Int × Int))) ++ l).length + [((6 : Int), (((l.length : Int) - (1 : Int)), (0 : Int)))].length) ∧ (roomN (([] : List (Int × (Int × Int))).length + ((([] : List (Int × (Int × Int))) ++ l) ++ [((6 : Int), (((l.length : Int) - (1 : Int)), (0 : Int)))]).length) ∧ InR ((l.length : Int) - (1 : Int)) ∧ InR ((l.length : Int) + (1 : Int)) ∧ InR ((l.length : Int) + (2 : Int)) ∧ roomN ((([] : List (Int × (Int × Int))) ++ ((([] : List (Int × (Int × Int))) ++ l) ++ [((6 : Int), (((l.length : Int) - (1 : Int)), (0 : Int)))])).length + [((4 : Int), (((l.length : Int) - (1 : Int)), (l.length : Int))), ((2 : Int), ((0 : Int), (0 : Int))), ((5 : Int), (((l.length : Int) + (1 : Int)), ((l.length : Int) + (2 : Int))))].length) ∧ (roomN (([] : List (Int × (Int × Int))).length + ((([] : List (Int × (Int × Int))) ++ l) ++ [((6 : Int), (((l.length : Int) - (1 : Int)), (0 : Int)))]).length) ∧ roomN ((([] : List (Int × (Int × Int))) ++ ((([] : List (Int × (Int × Int))) ++ l) ++ [((6 : Int), (((l.length : Int) - (1 : Int)), (0 : Int)))])).length + [((6 : Int), ((l.length : Int), (0 : Int)))].length) ∧ VC23 k ((([] : List (Int × (Int × Int))) ++ l) ++ [((6 : Int), (((l.length : Int) - (1 : Int)), (0 : Int)))]) w (fun (ret55v : Bool × Int) => VC23 k ((([] : List (Int × (Int × Int))) ++ ((([] : List (Int × (Int × Int))) ++ l) ++ [((6 : Int), (((l.length : Int) - (1 : Int)), (0 : Int)))])) ++ [((4 : Int), (((l.length : Int) - (1 : Int)), (l.length : Int))), ((2 : Int), ((0 : Int), (0 : Int))), ((5 : Int), (((l.length : Int) + (1 : Int)), ((l.length : Int) + (2 : Int))))]) w (fun (ret62v : Bool × Int) => VC23 k ((([] : List (Int × (Int × Int))) ++ ((([] : List (Int × (Int × Int))) ++ l) ++ [((6 : Int), (((l.length : Int) - (1 : Int)), (0 : Int)))])) ++ [((6 : Int), ((l.length : Int), (0 : Int)))]) w (fun (ret69v : Bool × Int) => VC24 k l w (fun (ret75v : Bool) => (((!ret75v) = true → K (((!decide (ret55v.2 = (0 : Int))) && (!decide (ret62v.2 = (0 : Int)))) && (!decide (ret69v.2 = (0 : Int))))) ∧ ((!ret75v) = false → (InR ((l.length : Int) + (4 : Int)) ∧ (((decide ((9 : Int) < ((l.length : Int) + (4 : Int)))) = true → K (!decide (ret62v.2 = (0 : Int)))) ∧ ((decide ((9 : Int) < ((l.length : Int) + (4 : Int)))) = false → VC23 k l w (fun (ret96v : Bool × Int) => K ((((((((decide (ret55v.2 = (0 : Int))) && (decide (ret62v.2 = (0 : Int)))) && (decide (ret69v.2 = (0 : Int)))) && (decide (ret96v.2 = (0 : Int)))) && (ret55v.1 == ret62v.1)) && (ret55v.1 == ret69v.1)) && ((!ret96v.1) || ret55v.1)) && ((decide ((0 : Int) < (w.length : Int))) || ret55v.1)))))))))))))))

set_option maxHeartbeats 4000000 in
theorem link6 (k : Int) (l : (List (Int × (Int × Int)))) (w : (List Int)) (K : Bool → Prop) (h : VC6 k l w K) : ACalls Try.prog 6 [toV1 (.int .i64) k, toV1 (.sl (.pr (.int .i64) (.pr (.int .i64) (.int .i64)))) l, toV1 (.sl (.int .i64)) w] (fun res => ∃ y, res = (fun y => [toV1 .bool y]) y ∧ K y) := by
  refine acalls_of_aw [.bool] [.t 6] Try.func6 rfl rfl rfl ?_
  unfold VC6 at h
  refine aw_seq ?_
  refine aw_region ?_
  refine awl_runp 1 [0, 1, 2] [] (ob := (True ∧ True)) (st' := (⟨138, [(0, [], .v (.c (.p (.int .i64) k))), (1, [], .v (.c (.p (.sl (.pr (.int .i64) (.pr (.int .i64) (.int .i64)))) l))), (2, [], .v (.c (.p (.sl (.int .i64)) w)))], []⟩ : St)) (by kernel_rfl) ⟨trivial, trivial⟩ ?_
  refine awl_nil ?_
  refine thenQ_n ?_
  refine aw_seq ?_
  refine aw_region ?_
  refine awl_runp 3 [0, 1, 2, 7] [] (ob := (True ∧ True ∧ True ∧ True)) (st' := (⟨138, [(0, [], .v (.c (.p (.int .i64) k))), (1, [], .v (.c (.p (.sl (.pr (.int .i64) (.pr (.int .i64) (.int .i64)))) l))), (2, [], .v (.c (.p (.sl (.int .i64)) w))), (7, [], .v (.c (.p (.int .i64) (l.length : Int))))], []⟩ : St)) (by kernel_rfl) ⟨trivial, trivial, trivial, trivial⟩ ?_
  refine awl_nil ?_
  refine thenQ_n ?_
  refine aw_seq ?_
  refine aw_region ?_
  obtain ⟨o1, o2, o3, h⟩ := h
  refine awl_runp 9 [0, 1, 2, 7, 8] [28] (ob := (True ∧ True ∧ roomN (([] : List (Int × (Int × Int))).length + l.length) ∧ True ∧ InR ((l.length : Int) - (1 : Int)) ∧ True ∧ True ∧ roomN ((([] : List (Int × (Int × Int))) ++ l).length + [((6 : Int), (((l.length : Int) - (1 : Int)), (0 : Int)))].length) ∧ True ∧ True)) (st' := (⟨138, [(0, [], .v (.c (.p (.int .i64) k))), (1, [], .v (.c (.p (.sl (.pr (.int .i64) (.pr (.int .i64) (.int .i64)))) l))), (2, [], .v (.c (.p (.sl (.int .i64)) w))), (7, [], .v (.c (.p (.int .i64) (l.length : Int)))), (8, [], .v (.c (.own 28)))], [(28, [], .arr 50 (.pr (.int .i64) (.pr (.int .i64) (.int .i64))) ((([] : List (Int × (Int × Int))) ++ l) ++ [((6 : Int), (((l.length : Int) - (1 : Int)), (0 : Int)))]))]⟩ : St)) (by kernel_rfl) ⟨trivial, trivial, o1, trivial, o2, trivial, trivial, o3, trivial, trivial⟩ ?_
  refine awl_nil ?_
  refine thenQ_n ?_
  refine aw_seq ?_
  refine aw_region ?_
  obtain ⟨o1, o2, o3, o4, o5, h⟩ := h
  refine awl_runp 16 [0, 1, 2, 7, 8, 9] [28, 43] (ob := (True ∧ True ∧ roomN (([] : List (Int × (Int × Int))).length + ((([] : List (Int × (Int × Int))) ++ l) ++ [((6 : Int), (((l.length : Int) - (1 : Int)), (0 : Int)))]).length) ∧ True ∧ InR ((l.length : Int) - (1 : Int)) ∧ True ∧ True ∧ True ∧ True ∧ InR ((l.length : Int) + (1 : Int)) ∧ True ∧ InR ((l.length : Int) + (2 : Int)) ∧ True ∧ True ∧ roomN ((([] : List (Int × (Int × Int))) ++ ((([] : List (Int × (Int × Int))) ++ l) ++ [((6 : Int), (((l.length : Int) - (1 : Int)), (0 : Int)))])).length + [((4 : Int), (((l.length : Int) - (1 : Int)), (l.length : Int))), ((2 : Int), ((0 : Int), (0 : Int))), ((5 : Int), (((l.length : Int) + (1 : Int)), ((l.length : Int) + (2 : Int))))].length) ∧ True ∧ True)) (st' := (⟨138, [(0, [], .v (.c (.p (.int .i64) k))), (1, [], .v (.c (.p (.sl (.pr (.int .i64) (.pr (.int .i64) (.int .i64)))) l))), (2, [], .v (.c (.p (.sl (.int .i64)) w))), (7, [], .v (.c (.p (.int .i64) (l.length : Int)))), (8, [], .v (.c (.own 28))), (9, [], .v (.c (.own 43)))], [(28, [], .arr 50 (.pr (.int .i64) (.pr (.int .i64) (.int .i64))) ((([] : List (Int × (Int × Int))) ++ l) ++ [((6 : Int), (((l.length : Int) - (1 : Int)), (0 : Int)))])), (43, [], .arr 50 (.pr (.int .i64) (.pr (.int .i64) (.int .i64))) ((([] : List (Int × (Int × Int))) ++ ((([] : List (Int × (Int × Int))) ++ l) ++ [((6 : Int), (((l.length : Int) - (1 : Int)), (0 : Int)))])) ++ [((4 : Int), (((l.length : Int) - (1 : Int)), (l.length : Int))), ((2 : Int), ((0 : Int), (0 : Int))), ((5 : Int), (((l.length : Int) + (1 : Int)), ((l.length : Int) + (2 : Int))))]))]⟩ : St)) (by kernel_rfl) ⟨trivial, trivial, o1, trivial, o2, trivial, trivial, trivial, trivial, o3, trivial, o4, trivial, trivial, o5, trivial, trivial⟩ ?_
  refine awl_nil ?_
  refine thenQ_n ?_
  refine aw_seq ?_
  refine aw_region ?_
  obtain ⟨o1, o2, h⟩ := h
  refine awl_runp 8 [0, 1, 2, 7, 8, 9, 10] [28, 43, 50] (ob := (True ∧ True ∧ roomN (([] : List (Int × (Int × Int))).length + ((([] : List (Int × (Int × Int))) ++ l) ++ [((6 : Int), (((l.length : Int) - (1 : Int)), (0 : Int)))]).length) ∧ True ∧ True ∧ True ∧ roomN ((([] : List (Int × (Int × Int))) ++ ((([] : List (Int × (Int × Int))) ++ l) ++ [((6 : Int), (((l.length : Int) - (1 : Int)), (0 : Int)))])).length + [((6 : Int), ((l.length : Int), (0 : Int)))].length) ∧ True ∧ True)) (st' := (⟨138, [(0, [], .v (.c (.p (.int .i64) k))), (1, [], .v (.c (.p (.sl (.pr (.int .i64) (.pr (.int .i64) (.int .i64)))) l))), (2, [], .v (.c (.p (.sl (.int .i64)) w))), (7, [], .v (.c (.p (.int .i64) (l.length : Int)))), (8, [], .v (.c (.own 28))), (9, [], .v (.c (.own 43))), (10, [], .v (.c (.own 50)))], [(28, [], .arr 50 (.pr (.int .i64) (.pr (.int .i64) (.int .i64))) ((([] : List (Int × (Int × Int))) ++ l) ++ [((6 : Int), (((l.length : Int) - (1 : Int)), (0 : Int)))])), (43, [], .arr 50 (.pr (.int .i64) (.pr (.int .i64) (.int .i64))) ((([] : List (Int × (Int × Int))) ++ ((([] : List (Int × (Int × Int))) ++ l) ++ [((6 : Int), (((l.length : Int) - (1 : Int)), (0 : Int)))])) ++ [((4 : Int), (((l.length : Int) - (1 : Int)), (l.length : Int))), ((2 : Int), ((0 : Int), (0 : Int))), ((5 : Int), (((l.length : Int) + (1 : Int)), ((l.length : Int) + (2 : Int))))])), (50, [], .arr 50 (.pr (.int .i64) (.pr (.int .i64) (.int .i64))) ((([] : List (Int × (Int × Int))) ++ ((([] : List (Int × (Int × Int))) ++ l) ++ [((6 : Int), (((l.length : Int) - (1 : Int)), (0 : Int)))])) ++ [((6 : Int), ((l.length : Int), (0 : Int)))]))]⟩ : St)) (by kernel_rfl) ⟨trivial, trivial, o1, trivial, trivial, trivial, o2, trivial, trivial⟩ ?_
  refine awl_nil ?_
  refine thenQ_n ?_
  refine aw_seq ?_
  refine aw_region ?_
  refine awl_runp 3 [0, 1, 2, 7, 9, 10, 52, 53, 54] [28, 43, 50] (ob := (True ∧ True ∧ True ∧ True)) (st' := (⟨138, [(0, [], .v (.c (.p (.int .i64) k))), (1, [], .v (.c (.p (.sl (.pr (.int .i64) (.pr (.int .i64) (.int .i64)))) l))), (2, [], .v (.c (.p (.sl (.int .i64)) w))), (7, [], .v (.c (.p (.int .i64) (l.length : Int)))), (9, [], .v (.c (.own 43))), (10, [], .v (.c (.own 50))), (52, [], .v (.c (.p (.int .i64) k))), (53, [], .v (.c (.own 28))), (54, [], .v (.c (.p (.sl (.int .i64)) w)))], [(28, [], .arr 50 (.pr (.int .i64) (.pr (.int .i64) (.int .i64))) ((([] : List (Int × (Int × Int))) ++ l) ++ [((6 : Int), (((l.length : Int) - (1 : Int)), (0 : Int)))])), (43, [], .arr 50 (.pr (.int .i64) (.pr (.int .i64) (.int .i64))) ((([] : List (Int × (Int × Int))) ++ ((([] : List (Int × (Int × Int))) ++ l) ++ [((6 : Int), (((l.length : Int) - (1 : Int)), (0 : Int)))])) ++ [((4 : Int), (((l.length : Int) - (1 : Int)), (l.length : Int))), ((2 : Int), ((0 : Int), (0 : Int))), ((5 : Int), (((l.length : Int) + (1 : Int)), ((l.length : Int) + (2 : Int))))])), (50, [], .arr 50 (.pr (.int .i64) (.pr (.int .i64) (.int .i64))) ((([] : List (Int × (Int × Int))) ++ ((([] : List (Int × (Int × Int))) ++ l) ++ [((6 : Int), (((l.length : Int) - (1 : Int)), (0 : Int)))])) ++ [((6 : Int), ((l.length : Int), (0 : Int)))]))]⟩ : St)) (by kernel_rfl) ⟨trivial, trivial, trivial, trivial⟩ ?_
  refine awl_callk (p := []) (l := [toV1 (.int .i64) k, toV1 (.sl (.pr (.int .i64) (.pr (.int .i64) (.int .i64)))) ((([] : List (Int × (Int × Int))) ++ l) ++ [((6 : Int), (((l.length : Int) - (1 : Int)), (0 : Int)))]), toV1 (.sl (.int .i64)) w]) (cl := []) true [.d (.int .i64), .d (.sl (.pr (.int .i64) (.pr (.int .i64) (.int .i64)))), .d (.sl (.int .i64))] [0, 1, 2, 7, 9, 10, 55] [43, 50] (fun (ret55v : Bool × Int) => VC23 k ((([] : List (Int × (Int × Int))) ++ ((([] : List (Int × (Int × Int))) ++ l) ++ [((6 : Int), (((l.length : Int) - (1 : Int)), (0 : Int)))])) ++ [((4 : Int), (((l.length : Int) - (1 : Int)), (l.length : Int))), ((2 : Int), ((0 : Int), (0 : Int))), ((5 : Int), (((l.length : Int) + (1 : Int)), ((l.length : Int) + (2 : Int))))]) w (fun (ret62v : Bool × Int) => VC23 k ((([] : List (Int × (Int × Int))) ++ ((([] : List (Int × (Int × Int))) ++ l) ++ [((6 : Int), (((l.length : Int) - (1 : Int)), (0 : Int)))])) ++ [((6 : Int), ((l.length : Int), (0 : Int)))]) w (fun (ret69v : Bool × Int) => VC24 k l w (fun (ret75v : Bool) => (((!ret75v) = true → K (((!decide (ret55v.2 = (0 : Int))) && (!decide (ret62v.2 = (0 : Int)))) && (!decide (ret69v.2 = (0 : Int))))) ∧ ((!ret75v) = false → (InR ((l.length : Int) + (4 : Int)) ∧ (((decide ((9 : Int) < ((l.length : Int) + (4 : Int)))) = true → K (!decide (ret62v.2 = (0 : Int)))) ∧ ((decide ((9 : Int) < ((l.length : Int) + (4 : Int)))) = false → VC23 k l w (fun (ret96v : Bool × Int) => K ((((((((decide (ret55v.2 = (0 : Int))) && (decide (ret62v.2 = (0 : Int)))) && (decide (ret69v.2 = (0 : Int)))) && (decide (ret96v.2 = (0 : Int)))) && (ret55v.1 == ret62v.1)) && (ret55v.1 == ret69v.1)) && ((!ret96v.1) || ret55v.1)) && ((decide ((0 : Int) < (w.length : Int))) || ret55v.1)))))))))))) (fun ret55v => [toV1 .bool ret55v.1, toV1 (.int .i64) ret55v.2]) (fun ret55v => (⟨138, [(0, [], .v (.c (.p (.int .i64) k))), (1, [], .v (.c (.p (.sl (.pr (.int .i64) (.pr (.int .i64) (.int .i64)))) l))), (2, [], .v (.c (.p (.sl (.int .i64)) w))), (7, [], .v (.c (.p (.int .i64) (l.length : Int)))), (9, [], .v (.c (.own 43))), (10, [], .v (.c (.own 50))), (55, [], .tup [.c (.p .bool ret55v.1), .c (.p (.int .i64) ret55v.2)])], [(43, [], .arr 50 (.pr (.int .i64) (.pr (.int .i64) (.int .i64))) ((([] : List (Int × (Int × Int))) ++ ((([] : List (Int × (Int × Int))) ++ l) ++ [((6 : Int), (((l.length : Int) - (1 : Int)), (0 : Int)))])) ++ [((4 : Int), (((l.length : Int) - (1 : Int)), (l.length : Int))), ((2 : Int), ((0 : Int), (0 : Int))), ((5 : Int), (((l.length : Int) + (1 : Int)), ((l.length : Int) + (2 : Int))))])), (50, [], .arr 50 (.pr (.int .i64) (.pr (.int .i64) (.int .i64))) ((([] : List (Int × (Int × Int))) ++ ((([] : List (Int × (Int × Int))) ++ l) ++ [((6 : Int), (((l.length : Int) - (1 : Int)), (0 : Int)))])) ++ [((6 : Int), ((l.length : Int), (0 : Int)))]))]⟩ : St)) (by kernel_rfl) rfl (by kernel_rfl) rfl (by kernel_rfl) Try.call23 (by kernel_rfl) (fun ret55v => by kernel_rfl) (fun _ _ => rfl) (fun hg => link23 k ((([] : List (Int × (Int × Int))) ++ l) ++ [((6 : Int), (((l.length : Int) - (1 : Int)), (0 : Int)))]) w _ h) (fun hg => noF hg) (fun ret55v h => ?_)
  have h : VC23 k ((([] : List (Int × (Int × Int))) ++ ((([] : List (Int × (Int × Int))) ++ l) ++ [((6 : Int), (((l.length : Int) - (1 : Int)), (0 : Int)))])) ++ [((4 : Int), (((l.length : Int) - (1 : Int)), (l.length : Int))), ((2 : Int), ((0 : Int), (0 : Int))), ((5 : Int), (((l.length : Int) + (1 : Int)), ((l.length : Int) + (2 : Int))))]) w (fun (ret62v : Bool × Int) => VC23 k ((([] : List (Int × (Int × Int))) ++ ((([] : List (Int × (Int × Int))) ++ l) ++ [((6 : Int), (((l.length : Int) - (1 : Int)), (0 : Int)))])) ++ [((6 : Int), ((l.length : Int), (0 : Int)))]) w (fun (ret69v : Bool × Int) => VC24 k l w (fun (ret75v : Bool) => (((!ret75v) = true → K (((!decide (ret55v.2 = (0 : Int))) && (!decide (ret62v.2 = (0 : Int)))) && (!decide (ret69v.2 = (0 : Int))))) ∧ ((!ret75v) = false → (InR ((l.length : Int) + (4 : Int)) ∧ (((decide ((9 : Int) < ((l.length : Int) + (4 : Int)))) = true → K (!decide (ret62v.2 = (0 : Int)))) ∧ ((decide ((9 : Int) < ((l.length : Int) + (4 : Int)))) = false → VC23 k l w (fun (ret96v : Bool × Int) => K ((((((((decide (ret55v.2 = (0 : Int))) && (decide (ret62v.2 = (0 : Int)))) && (decide (ret69v.2 = (0 : Int)))) && (decide (ret96v.2 = (0 : Int)))) && (ret55v.1 == ret62v.1)) && (ret55v.1 == ret69v.1)) && ((!ret96v.1) || ret55v.1)) && ((decide ((0 : Int) < (w.length : Int))) || ret55v.1))))))))))) := h
  refine awl_runp 5 [0, 1, 2, 7, 9, 10, 11, 12] [43, 50] (ob := (True ∧ True ∧ True ∧ True ∧ True ∧ True)) (st' := (⟨138, [(0, [], .v (.c (.p (.int .i64) k))), (1, [], .v (.c (.p (.sl (.pr (.int .i64) (.pr (.int .i64) (.int .i64)))) l))), (2, [], .v (.c (.p (.sl (.int .i64)) w))), (7, [], .v (.c (.p (.int .i64) (l.length : Int)))), (9, [], .v (.c (.own 43))), (10, [], .v (.c (.own 50))), (11, [], .v (.c (.p .bool ret55v.1))), (12, [], .v (.c (.p (.int .i64) ret55v.2)))], [(43, [], .arr 50 (.pr (.int .i64) (.pr (.int .i64) (.int .i64))) ((([] : List (Int × (Int × Int))) ++ ((([] : List (Int × (Int × Int))) ++ l) ++ [((6 : Int), (((l.length : Int) - (1 : Int)), (0 : Int)))])) ++ [((4 : Int), (((l.length : Int) - (1 : Int)), (l.length : Int))), ((2 : Int), ((0 : Int), (0 : Int))), ((5 : Int), (((l.length : Int) + (1 : Int)), ((l.length : Int) + (2 : Int))))])), (50, [], .arr 50 (.pr (.int .i64) (.pr (.int .i64) (.int .i64))) ((([] : List (Int × (Int × Int))) ++ ((([] : List (Int × (Int × Int))) ++ l) ++ [((6 : Int), (((l.length : Int) - (1 : Int)), (0 : Int)))])) ++ [((6 : Int), ((l.length : Int), (0 : Int)))]))]⟩ : St)) (by kernel_rfl) ⟨trivial, trivial, trivial, trivial, trivial, trivial⟩ ?_
  refine awl_nil ?_
  refine thenQ_n ?_
  refine aw_seq ?_
  refine aw_region ?_
  refine awl_runp 3 [0, 1, 2, 7, 10, 11, 12, 59, 60, 61] [43, 50] (ob := (True ∧ True ∧ True ∧ True)) (st' := (⟨138, [(0, [], .v (.c (.p (.int .i64) k))), (1, [], .v (.c (.p (.sl (.pr (.int .i64) (.pr (.int .i64) (.int .i64)))) l))), (2, [], .v (.c (.p (.sl (.int .i64)) w))), (7, [], .v (.c (.p (.int .i64) (l.length : Int)))), (10, [], .v (.c (.own 50))), (11, [], .v (.c (.p .bool ret55v.1))), (12, [], .v (.c (.p (.int .i64) ret55v.2))), (59, [], .v (.c (.p (.int .i64) k))), (60, [], .v (.c (.own 43))), (61, [], .v (.c (.p (.sl (.int .i64)) w)))], [(43, [], .arr 50 (.pr (.int .i64) (.pr (.int .i64) (.int .i64))) ((([] : List (Int × (Int × Int))) ++ ((([] : List (Int × (Int × Int))) ++ l) ++ [((6 : Int), (((l.length : Int) - (1 : Int)), (0 : Int)))])) ++ [((4 : Int), (((l.length : Int) - (1 : Int)), (l.length : Int))), ((2 : Int), ((0 : Int), (0 : Int))), ((5 : Int), (((l.length : Int) + (1 : Int)), ((l.length : Int) + (2 : Int))))])), (50, [], .arr 50 (.pr (.int .i64) (.pr (.int .i64) (.int .i64))) ((([] : List (Int × (Int × Int))) ++ ((([] : List (Int × (Int × Int))) ++ l) ++ [((6 : Int), (((l.length : Int) - (1 : Int)), (0 : Int)))])) ++ [((6 : Int), ((l.length : Int), (0 : Int)))]))]⟩ : St)) (by kernel_rfl) ⟨trivial, trivial, trivial, trivial⟩ ?_
  refine awl_callk (p := []) (l := [toV1 (.int .i64) k, toV1 (.sl (.pr (.int .i64) (.pr (.int .i64) (.int .i64)))) ((([] : List (Int × (Int × Int))) ++ ((([] : List (Int × (Int × Int))) ++ l) ++ [((6 : Int), (((l.length : Int) - (1 : Int)), (0 : Int)))])) ++ [((4 : Int), (((l.length : Int) - (1 : Int)), (l.length : Int))), ((2 : Int), ((0 : Int), (0 : Int))), ((5 : Int), (((l.length : Int) + (1 : Int)), ((l.length : Int) + (2 : Int))))]), toV1 (.sl (.int .i64)) w]) (cl := []) true [.d (.int .i64), .d (.sl (.pr (.int .i64) (.pr (.int .i64) (.int .i64)))), .d (.sl (.int .i64))] [0, 1, 2, 7, 10, 11, 12, 62] [50] (fun (ret62v : Bool × Int) => VC23 k ((([] : List (Int × (Int × Int))) ++ ((([] : List (Int × (Int × Int))) ++ l) ++ [((6 : Int), (((l.length : Int) - (1 : Int)), (0 : Int)))])) ++ [((6 : Int), ((l.length : Int), (0 : Int)))]) w (fun (ret69v : Bool × Int) => VC24 k l w (fun (ret75v : Bool) => (((!ret75v) = true → K (((!decide (ret55v.2 = (0 : Int))) && (!decide (ret62v.2 = (0 : Int)))) && (!decide (ret69v.2 = (0 : Int))))) ∧ ((!ret75v) = false → (InR ((l.length : Int) + (4 : Int)) ∧ (((decide ((9 : Int) < ((l.length : Int) + (4 : Int)))) = true → K (!decide (ret62v.2 = (0 : Int)))) ∧ ((decide ((9 : Int) < ((l.length : Int) + (4 : Int)))) = false → VC23 k l w (fun (ret96v : Bool × Int) => K ((((((((decide (ret55v.2 = (0 : Int))) && (decide (ret62v.2 = (0 : Int)))) && (decide (ret69v.2 = (0 : Int)))) && (decide (ret96v.2 = (0 : Int)))) && (ret55v.1 == ret62v.1)) && (ret55v.1 == ret69v.1)) && ((!ret96v.1) || ret55v.1)) && ((decide ((0 : Int) < (w.length : Int))) || ret55v.1))))))))))) (fun ret62v => [toV1 .bool ret62v.1, toV1 (.int .i64) ret62v.2]) (fun ret62v => (⟨138, [(0, [], .v (.c (.p (.int .i64) k))), (1, [], .v (.c (.p (.sl (.pr (.int .i64) (.pr (.int .i64) (.int .i64)))) l))), (2, [], .v (.c (.p (.sl (.int .i64)) w))), (7, [], .v (.c (.p (.int .i64) (l.length : Int)))), (10, [], .v (.c (.own 50))), (11, [], .v (.c (.p .bool ret55v.1))), (12, [], .v (.c (.p (.int .i64) ret55v.2))), (62, [], .tup [.c (.p .bool ret62v.1), .c (.p (.int .i64) ret62v.2)])], [(50, [], .arr 50 (.pr (.int .i64) (.pr (.int .i64) (.int .i64))) ((([] : List (Int × (Int × Int))) ++ ((([] : List (Int × (Int × Int))) ++ l) ++ [((6 : Int), (((l.length : Int) - (1 : Int)), (0 : Int)))])) ++ [((6 : Int), ((l.length : Int), (0 : Int)))]))]⟩ : St)) (by kernel_rfl) rfl (by kernel_rfl) rfl (by kernel_rfl) Try.call23 (by kernel_rfl) (fun ret62v => by kernel_rfl) (fun _ _ => rfl) (fun hg => link23 k ((([] : List (Int × (Int × Int))) ++ ((([] : List (Int × (Int × Int))) ++ l) ++ [((6 : Int), (((l.length : Int) - (1 : Int)), (0 : Int)))])) ++ [((4 : Int), (((l.length : Int) - (1 : Int)), (l.length : Int))), ((2 : Int), ((0 : Int), (0 : Int))), ((5 : Int), (((l.length : Int) + (1 : Int)), ((l.length : Int) + (2 : Int))))]) w _ h) (fun hg => noF hg) (fun ret62v h => ?_)
  have h : VC23 k ((([] : List (Int × (Int × Int))) ++ ((([] : List (Int × (Int × Int))) ++ l) ++ [((6 : Int), (((l.length : Int) - (1 : Int)), (0 : Int)))])) ++ [((6 : Int), ((l.length : Int), (0 : Int)))]) w (fun (ret69v : Bool × Int) => VC24 k l w (fun (ret75v : Bool) => (((!ret75v) = true → K (((!decide (ret55v.2 = (0 : Int))) && (!decide (ret62v.2 = (0 : Int)))) && (!decide (ret69v.2 = (0 : Int))))) ∧ ((!ret75v) = false → (InR ((l.length : Int) + (4 : Int)) ∧ (((decide ((9 : Int) < ((l.length : Int) + (4 : Int)))) = true → K (!decide (ret62v.2 = (0 : Int)))) ∧ ((decide ((9 : Int) < ((l.length : Int) + (4 : Int)))) = false → VC23 k l w (fun (ret96v : Bool × Int) => K ((((((((decide (ret55v.2 = (0 : Int))) && (decide (ret62v.2 = (0 : Int)))) && (decide (ret69v.2 = (0 : Int)))) && (decide (ret96v.2 = (0 : Int)))) && (ret55v.1 == ret62v.1)) && (ret55v.1 == ret69v.1)) && ((!ret96v.1) || ret55v.1)) && ((decide ((0 : Int) < (w.length : Int))) || ret55v.1)))))))))) := h
  refine awl_runp 5 [0, 1, 2, 7, 10, 11, 12, 13, 14] [50] (ob := (True ∧ True ∧ True ∧ True ∧ True ∧ True)) (st' := (⟨138, [(0, [], .v (.c (.p (.int .i64) k))), (1, [], .v (.c (.p (.sl (.pr (.int .i64) (.pr (.int .i64) (.int .i64)))) l))), (2, [], .v (.c (.p (.sl (.int .i64)) w))), (7, [], .v (.c (.p (.int .i64) (l.length : Int)))), (10, [], .v (.c (.own 50))), (11, [], .v (.c (.p .bool ret55v.1))), (12, [], .v (.c (.p (.int .i64) ret55v.2))), (13, [], .v (.c (.p .bool ret62v.1))), (14, [], .v (.c (.p (.int .i64) ret62v.2)))], [(50, [], .arr 50 (.pr (.int .i64) (.pr (.int .i64) (.int .i64))) ((([] : List (Int × (Int × Int))) ++ ((([] : List (Int × (Int × Int))) ++ l) ++ [((6 : Int), (((l.length : Int) - (1 : Int)), (0 : Int)))])) ++ [((6 : Int), ((l.length : Int), (0 : Int)))]))]⟩ : St)) (by kernel_rfl) ⟨trivial, trivial, trivial, trivial, trivial, trivial⟩ ?_
  refine awl_nil ?_
  refine thenQ_n ?_
  refine aw_seq ?_
  refine aw_region ?_
  refine awl_runp 3 [0, 1, 2, 7, 11, 12, 13, 14, 66, 67, 68] [50] (ob := (True ∧ True ∧ True ∧ True)) (st' := (⟨138, [(0, [], .v (.c (.p (.int .i64) k))), (1, [], .v (.c (.p (.sl (.pr (.int .i64) (.pr (.int .i64) (.int .i64)))) l))), (2, [], .v (.c (.p (.sl (.int .i64)) w))), (7, [], .v (.c (.p (.int .i64) (l.length : Int)))), (11, [], .v (.c (.p .bool ret55v.1))), (12, [], .v (.c (.p (.int .i64) ret55v.2))), (13, [], .v (.c (.p .bool ret62v.1))), (14, [], .v (.c (.p (.int .i64) ret62v.2))), (66, [], .v (.c (.p (.int .i64) k))), (67, [], .v (.c (.own 50))), (68, [], .v (.c (.p (.sl (.int .i64)) w)))], [(50, [], .arr 50 (.pr (.int .i64) (.pr (.int .i64) (.int .i64))) ((([] : List (Int × (Int × Int))) ++ ((([] : List (Int × (Int × Int))) ++ l) ++ [((6 : Int), (((l.length : Int) - (1 : Int)), (0 : Int)))])) ++ [((6 : Int), ((l.length : Int), (0 : Int)))]))]⟩ : St)) (by kernel_rfl) ⟨trivial, trivial, trivial, trivial⟩ ?_
  refine awl_callk (p := []) (l := [toV1 (.int .i64) k, toV1 (.sl (.pr (.int .i64) (.pr (.int .i64) (.int .i64)))) ((([] : List (Int × (Int × Int))) ++ ((([] : List (Int × (Int × Int))) ++ l) ++ [((6 : Int), (((l.length : Int) - (1 : Int)), (0 : Int)))])) ++ [((6 : Int), ((l.length : Int), (0 : Int)))]), toV1 (.sl (.int .i64)) w]) (cl := []) true [.d (.int .i64), .d (.sl (.pr (.int .i64) (.pr (.int .i64) (.int .i64)))), .d (.sl (.int .i64))] [0, 1, 2, 7, 11, 12, 13, 14, 69] [] (fun (ret69v : Bool × Int) => VC24 k l w (fun (ret75v : Bool) => (((!ret75v) = true → K (((!decide (ret55v.2 = (0 : Int))) && (!decide (ret62v.2 = (0 : Int)))) && (!decide (ret69v.2 = (0 : Int))))) ∧ ((!ret75v) = false → (InR ((l.length : Int) + (4 : Int)) ∧ (((decide ((9 : Int) < ((l.length : Int) + (4 : Int)))) = true → K (!decide (ret62v.2 = (0 : Int)))) ∧ ((decide ((9 : Int) < ((l.length : Int) + (4 : Int)))) = false → VC23 k l w (fun (ret96v : Bool × Int) => K ((((((((decide (ret55v.2 = (0 : Int))) && (decide (ret62v.2 = (0 : Int)))) && (decide (ret69v.2 = (0 : Int)))) && (decide (ret96v.2 = (0 : Int)))) && (ret55v.1 == ret62v.1)) && (ret55v.1 == ret69v.1)) && ((!ret96v.1) || ret55v.1)) && ((decide ((0 : Int) < (w.length : Int))) || ret55v.1)))))))))) (fun ret69v => [toV1 .bool ret69v.1, toV1 (.int .i64) ret69v.2]) (fun ret69v => (⟨138, [(0, [], .v (.c (.p (.int .i64) k))), (1, [], .v (.c (.p (.sl (.pr (.int .i64) (.pr (.int .i64) (.int .i64)))) l))), (2, [], .v (.c (.p (.sl (.int .i64)) w))), (7, [], .v (.c (.p (.int .i64) (l.length : Int)))), (11, [], .v (.c (.p .bool ret55v.1))), (12, [], .v (.c (.p (.int .i64) ret55v.2))), (13, [], .v (.c (.p .bool ret62v.1))), (14, [], .v (.c (.p (.int .i64) ret62v.2))), (69, [], .tup [.c (.p .bool ret69v.1), .c (.p (.int .i64) ret69v.2)])], []⟩ : St)) (by kernel_rfl) rfl (by kernel_rfl) rfl (by kernel_rfl) Try.call23 (by kernel_rfl) (fun ret69v => by kernel_rfl) (fun _ _ => rfl) (fun hg => link23 k ((([] : List (Int × (Int × Int))) ++ ((([] : List (Int × (Int × Int))) ++ l) ++ [((6 : Int), (((l.length : Int) - (1 : Int)), (0 : Int)))])) ++ [((6 : Int), ((l.length : Int), (0 : Int)))]) w _ h) (fun hg => noF hg) (fun ret69v h => ?_)
  have h : VC24 k l w (fun (ret75v : Bool) => (((!ret75v) = true → K (((!decide (ret55v.2 = (0 : Int))) && (!decide (ret62v.2 = (0 : Int)))) && (!decide (ret69v.2 = (0 : Int))))) ∧ ((!ret75v) = false → (InR ((l.length : Int) + (4 : Int)) ∧ (((decide ((9 : Int) < ((l.length : Int) + (4 : Int)))) = true → K (!decide (ret62v.2 = (0 : Int)))) ∧ ((decide ((9 : Int) < ((l.length : Int) + (4 : Int)))) = false → VC23 k l w (fun (ret96v : Bool × Int) => K ((((((((decide (ret55v.2 = (0 : Int))) && (decide (ret62v.2 = (0 : Int)))) && (decide (ret69v.2 = (0 : Int)))) && (decide (ret96v.2 = (0 : Int)))) && (ret55v.1 == ret62v.1)) && (ret55v.1 == ret69v.1)) && ((!ret96v.1) || ret55v.1)) && ((decide ((0 : Int) < (w.length : Int))) || ret55v.1))))))))) := h
  refine awl_runp 5 [0, 1, 2, 7, 11, 12, 13, 14, 15, 16] [] (ob := (True ∧ True ∧ True ∧ True ∧ True ∧ True)) (st' := (⟨138, [(0, [], .v (.c (.p (.int .i64) k))), (1, [], .v (.c (.p (.sl (.pr (.int .i64) (.pr (.int .i64) (.int .i64)))) l))), (2, [], .v (.c (.p (.sl (.int .i64)) w))), (7, [], .v (.c (.p (.int .i64) (l.length : Int)))), (11, [], .v (.c (.p .bool ret55v.1))), (12, [], .v (.c (.p (.int .i64) ret55v.2))), (13, [], .v (.c (.p .bool ret62v.1))), (14, [], .v (.c (.p (.int .i64) ret62v.2))), (15, [], .v (.c (.p .bool ret69v.1))), (16, [], .v (.c (.p (.int .i64) ret69v.2)))], []⟩ : St)) (by kernel_rfl) ⟨trivial, trivial, trivial, trivial, trivial, trivial⟩ ?_
  refine awl_nil ?_
  refine thenQ_n ?_
  refine aw_seq ?_
  refine aw_seq ?_
  refine aw_region ?_
  refine awl_runp 3 [0, 1, 2, 7, 11, 12, 13, 14, 15, 16, 72, 73, 74] [] (ob := (True ∧ True ∧ True ∧ True)) (st' := (⟨138, [(0, [], .v (.c (.p (.int .i64) k))), (1, [], .v (.c (.p (.sl (.pr (.int .i64) (.pr (.int .i64) (.int .i64)))) l))), (2, [], .v (.c (.p (.sl (.int .i64)) w))), (7, [], .v (.c (.p (.int .i64) (l.length : Int)))), (11, [], .v (.c (.p .bool ret55v.1))), (12, [], .v (.c (.p (.int .i64) ret55v.2))), (13, [], .v (.c (.p .bool ret62v.1))), (14, [], .v (.c (.p (.int .i64) ret62v.2))), (15, [], .v (.c (.p .bool ret69v.1))), (16, [], .v (.c (.p (.int .i64) ret69v.2))), (72, [], .v (.c (.p (.int .i64) k))), (73, [], .v (.c (.p (.sl (.pr (.int .i64) (.pr (.int .i64) (.int .i64)))) l))), (74, [], .v (.c (.p (.sl (.int .i64)) w)))], []⟩ : St)) (by kernel_rfl) ⟨trivial, trivial, trivial, trivial⟩ ?_
  refine awl_callk (p := []) (l := [toV1 (.int .i64) k, toV1 (.sl (.pr (.int .i64) (.pr (.int .i64) (.int .i64)))) l, toV1 (.sl (.int .i64)) w]) (cl := []) false [.d (.int .i64), .d (.sl (.pr (.int .i64) (.pr (.int .i64) (.int .i64)))), .d (.sl (.int .i64))] [0, 1, 2, 7, 11, 12, 13, 14, 15, 16, 75] [] (fun (ret75v : Bool) => (((!ret75v) = true → K (((!decide (ret55v.2 = (0 : Int))) && (!decide (ret62v.2 = (0 : Int)))) && (!decide (ret69v.2 = (0 : Int))))) ∧ ((!ret75v) = false → (InR ((l.length : Int) + (4 : Int)) ∧ (((decide ((9 : Int) < ((l.length : Int) + (4 : Int)))) = true → K (!decide (ret62v.2 = (0 : Int)))) ∧ ((decide ((9 : Int) < ((l.length : Int) + (4 : Int)))) = false → VC23 k l w (fun (ret96v : Bool × Int) => K ((((((((decide (ret55v.2 = (0 : Int))) && (decide (ret62v.2 = (0 : Int)))) && (decide (ret69v.2 = (0 : Int)))) && (decide (ret96v.2 = (0 : Int)))) && (ret55v.1 == ret62v.1)) && (ret55v.1 == ret69v.1)) && ((!ret96v.1) || ret55v.1)) && ((decide ((0 : Int) < (w.length : Int))) || ret55v.1))))))))) (fun ret75v => [toV1 .bool ret75v]) (fun ret75v => (⟨138, [(0, [], .v (.c (.p (.int .i64) k))), (1, [], .v (.c (.p (.sl (.pr (.int .i64) (.pr (.int .i64) (.int .i64)))) l))), (2, [], .v (.c (.p (.sl (.int .i64)) w))), (7, [], .v (.c (.p (.int .i64) (l.length : Int)))), (11, [], .v (.c (.p .bool ret55v.1))), (12, [], .v (.c (.p (.int .i64) ret55v.2))), (13, [], .v (.c (.p .bool ret62v.1))), (14, [], .v (.c (.p (.int .i64) ret62v.2))), (15, [], .v (.c (.p .bool ret69v.1))), (16, [], .v (.c (.p (.int .i64) ret69v.2))), (75, [], .v (.c (.p .bool ret75v)))], []⟩ : St)) (by kernel_rfl) rfl (by kernel_rfl) rfl (by kernel_rfl) Try.call24 (by kernel_rfl) (fun ret75v => by kernel_rfl) (fun e => by cases e) (fun hg => link24 k l w _ h) (fun hg => noF hg) (fun ret75v h => ?_)
  have h : (((!ret75v) = true → K (((!decide (ret55v.2 = (0 : Int))) && (!decide (ret62v.2 = (0 : Int)))) && (!decide (ret69v.2 = (0 : Int))))) ∧ ((!ret75v) = false → (InR ((l.length : Int) + (4 : Int)) ∧ (((decide ((9 : Int) < ((l.length : Int) + (4 : Int)))) = true → K (!decide (ret62v.2 = (0 : Int)))) ∧ ((decide ((9 : Int) < ((l.length : Int) + (4 : Int)))) = false → VC23 k l w (fun (ret96v : Bool × Int) => K ((((((((decide (ret55v.2 = (0 : Int))) && (decide (ret62v.2 = (0 : Int)))) && (decide (ret69v.2 = (0 : Int)))) && (decide (ret96v.2 = (0 : Int)))) && (ret55v.1 == ret62v.1)) && (ret55v.1 == ret69v.1)) && ((!ret96v.1) || ret55v.1)) && ((decide ((0 : Int) < (w.length : Int))) || ret55v.1)))))))) := h
  refine awl_runp 1 [0, 1, 2, 7, 11, 12, 13, 14, 15, 16, 76] [] (ob := (True ∧ True)) (st' := (⟨138, [(0, [], .v (.c (.p (.int .i64) k))), (1, [], .v (.c (.p (.sl (.pr (.int .i64) (.pr (.int .i64) (.int .i64)))) l))), (2, [], .v (.c (.p (.sl (.int .i64)) w))), (7, [], .v (.c (.p (.int .i64) (l.length : Int)))), (11, [], .v (.c (.p .bool ret55v.1))), (12, [], .v (.c (.p (.int .i64) ret55v.2))), (13, [], .v (.c (.p .bool ret62v.1))), (14, [], .v (.c (.p (.int .i64) ret62v.2))), (15, [], .v (.c (.p .bool ret69v.1))), (16, [], .v (.c (.p (.int .i64) ret69v.2))), (76, [], .v (.c (.p .bool (!ret75v))))], []⟩ : St)) (by kernel_rfl) ⟨trivial, trivial⟩ ?_
  refine awl_nil ?_
  refine thenQ_n ?_
  refine aw_cond (b := (!ret75v)) (by kernel_rfl) (fun hb => ?_) (fun hb => ?_)
  · have h := h.1 hb
    refine aw_seq ?_
    refine aw_region ?_
    refine awl_runp 11 [6] [] (ob := (True ∧ True ∧ True ∧ ((!decide (ret55v.2 = (0 : Int))) = true → True) ∧ ((!decide (ret55v.2 = (0 : Int))) = true → True) ∧ True ∧ True ∧ (((!decide (ret55v.2 = (0 : Int))) && (!decide (ret62v.2 = (0 : Int)))) = true → True) ∧ (((!decide (ret55v.2 = (0 : Int))) && (!decide (ret62v.2 = (0 : Int)))) = true → True) ∧ True ∧ True ∧ True)) (st' := (⟨138, [(6, [], .v (.c (.p .bool (((!decide (ret55v.2 = (0 : Int))) && (!decide (ret62v.2 = (0 : Int)))) && (!decide (ret69v.2 = (0 : Int)))))))], []⟩ : St)) (by kernel_rfl) ⟨trivial, trivial, trivial, (fun _ => trivial), (fun _ => trivial), trivial, trivial, (fun _ => trivial), (fun _ => trivial), trivial, trivial, trivial⟩ ?_
    refine awl_nil ?_
    refine thenQ_n ?_
    refine aw_ret ?_
    refine thenQ_r ?_
    exact retQ_r (σ := Bool) (R := (fun y => [toV1 .bool y])) (ob := (True ∧ True)) (((!decide (ret55v.2 = (0 : Int))) && (!decide (ret62v.2 = (0 : Int)))) && (!decide (ret69v.2 = (0 : Int)))) (by kernel_rfl) ⟨trivial, trivial⟩ h
  · have h := h.2 hb
    refine aw_skip ?_
    refine thenQ_n ?_
    refine aw_seq ?_
    refine aw_seq ?_
    refine aw_region ?_
    obtain ⟨o1, h⟩ := h
    refine awl_runp 3 [0, 1, 2, 11, 12, 13, 14, 15, 16, 89] [] (ob := (True ∧ InR ((l.length : Int) + (4 : Int)) ∧ True ∧ True)) (st' := (⟨138, [(0, [], .v (.c (.p (.int .i64) k))), (1, [], .v (.c (.p (.sl (.pr (.int .i64) (.pr (.int .i64) (.int .i64)))) l))), (2, [], .v (.c (.p (.sl (.int .i64)) w))), (11, [], .v (.c (.p .bool ret55v.1))), (12, [], .v (.c (.p (.int .i64) ret55v.2))), (13, [], .v (.c (.p .bool ret62v.1))), (14, [], .v (.c (.p (.int .i64) ret62v.2))), (15, [], .v (.c (.p .bool ret69v.1))), (16, [], .v (.c (.p (.int .i64) ret69v.2))), (89, [], .v (.c (.p .bool (decide ((9 : Int) < ((l.length : Int) + (4 : Int)))))))], []⟩ : St)) (by kernel_rfl) ⟨trivial, o1, trivial, trivial⟩ ?_
    refine awl_nil ?_
    refine thenQ_n ?_
    refine aw_cond (b := (decide ((9 : Int) < ((l.length : Int) + (4 : Int))))) (by kernel_rfl) (fun hb => ?_) (fun hb => ?_)
    · have h := h.1 hb
      refine aw_seq ?_
      refine aw_region ?_
      refine awl_runp 3 [6] [] (ob := (True ∧ True ∧ True ∧ True)) (st' := (⟨138, [(6, [], .v (.c (.p .bool (!decide (ret62v.2 = (0 : Int))))))], []⟩ : St)) (by kernel_rfl) ⟨trivial, trivial, trivial, trivial⟩ ?_
      refine awl_nil ?_
      refine thenQ_n ?_
      refine aw_ret ?_
      refine thenQ_r ?_
      exact retQ_r (σ := Bool) (R := (fun y => [toV1 .bool y])) (ob := (True ∧ True)) (!decide (ret62v.2 = (0 : Int))) (by kernel_rfl) ⟨trivial, trivial⟩ h
    · have h := h.2 hb
      refine aw_skip ?_
      refine thenQ_n ?_
      refine aw_seq ?_
      refine aw_region ?_
      refine awl_runp 3 [2, 11, 12, 13, 14, 15, 16, 93, 94, 95] [] (ob := (True ∧ True ∧ True ∧ True)) (st' := (⟨138, [(2, [], .v (.c (.p (.sl (.int .i64)) w))), (11, [], .v (.c (.p .bool ret55v.1))), (12, [], .v (.c (.p (.int .i64) ret55v.2))), (13, [], .v (.c (.p .bool ret62v.1))), (14, [], .v (.c (.p (.int .i64) ret62v.2))), (15, [], .v (.c (.p .bool ret69v.1))), (16, [], .v (.c (.p (.int .i64) ret69v.2))), (93, [], .v (.c (.p (.int .i64) k))), (94, [], .v (.c (.p (.sl (.pr (.int .i64) (.pr (.int .i64) (.int .i64)))) l))), (95, [], .v (.c (.p (.sl (.int .i64)) w)))], []⟩ : St)) (by kernel_rfl) ⟨trivial, trivial, trivial, trivial⟩ ?_
      refine awl_callk (p := []) (l := [toV1 (.int .i64) k, toV1 (.sl (.pr (.int .i64) (.pr (.int .i64) (.int .i64)))) l, toV1 (.sl (.int .i64)) w]) (cl := []) false [.d (.int .i64), .d (.sl (.pr (.int .i64) (.pr (.int .i64) (.int .i64)))), .d (.sl (.int .i64))] [2, 11, 12, 13, 14, 15, 16, 96] [] (fun (ret96v : Bool × Int) => K ((((((((decide (ret55v.2 = (0 : Int))) && (decide (ret62v.2 = (0 : Int)))) && (decide (ret69v.2 = (0 : Int)))) && (decide (ret96v.2 = (0 : Int)))) && (ret55v.1 == ret62v.1)) && (ret55v.1 == ret69v.1)) && ((!ret96v.1) || ret55v.1)) && ((decide ((0 : Int) < (w.length : Int))) || ret55v.1))) (fun ret96v => [toV1 .bool ret96v.1, toV1 (.int .i64) ret96v.2]) (fun ret96v => (⟨138, [(2, [], .v (.c (.p (.sl (.int .i64)) w))), (11, [], .v (.c (.p .bool ret55v.1))), (12, [], .v (.c (.p (.int .i64) ret55v.2))), (13, [], .v (.c (.p .bool ret62v.1))), (14, [], .v (.c (.p (.int .i64) ret62v.2))), (15, [], .v (.c (.p .bool ret69v.1))), (16, [], .v (.c (.p (.int .i64) ret69v.2))), (96, [], .tup [.c (.p .bool ret96v.1), .c (.p (.int .i64) ret96v.2)])], []⟩ : St)) (by kernel_rfl) rfl (by kernel_rfl) rfl (by kernel_rfl) Try.call23 (by kernel_rfl) (fun ret96v => by kernel_rfl) (fun e => by cases e) (fun hg => link23 k l w _ h) (fun hg => noF hg) (fun ret96v h => ?_)
      have h : K ((((((((decide (ret55v.2 = (0 : Int))) && (decide (ret62v.2 = (0 : Int)))) && (decide (ret69v.2 = (0 : Int)))) && (decide (ret96v.2 = (0 : Int)))) && (ret55v.1 == ret62v.1)) && (ret55v.1 == ret69v.1)) && ((!ret96v.1) || ret55v.1)) && ((decide ((0 : Int) < (w.length : Int))) || ret55v.1)) := h
      refine awl_runp 5 [2, 11, 12, 13, 14, 15, 16, 17, 18] [] (ob := (True ∧ True ∧ True ∧ True ∧ True ∧ True)) (st' := (⟨138, [(2, [], .v (.c (.p (.sl (.int .i64)) w))), (11, [], .v (.c (.p .bool ret55v.1))), (12, [], .v (.c (.p (.int .i64) ret55v.2))), (13, [], .v (.c (.p .bool ret62v.1))), (14, [], .v (.c (.p (.int .i64) ret62v.2))), (15, [], .v (.c (.p .bool ret69v.1))), (16, [], .v (.c (.p (.int .i64) ret69v.2))), (17, [], .v (.c (.p .bool ret96v.1))), (18, [], .v (.c (.p (.int .i64) ret96v.2)))], []⟩ : St)) (by kernel_rfl) ⟨trivial, trivial, trivial, trivial, trivial, trivial⟩ ?_
      refine awl_nil ?_
      refine thenQ_n ?_
      refine aw_seq ?_
      refine aw_region ?_
      refine awl_runp 40 [6] [] (ob := (True ∧ True ∧ True ∧ ((decide (ret55v.2 = (0 : Int))) = true → True) ∧ ((decide (ret55v.2 = (0 : Int))) = true → True) ∧ True ∧ True ∧ (((decide (ret55v.2 = (0 : Int))) && (decide (ret62v.2 = (0 : Int)))) = true → True) ∧ (((decide (ret55v.2 = (0 : Int))) && (decide (ret62v.2 = (0 : Int)))) = true → True) ∧ True ∧ True ∧ ((((decide (ret55v.2 = (0 : Int))) && (decide (ret62v.2 = (0 : Int)))) && (decide (ret69v.2 = (0 : Int)))) = true → True) ∧ ((((decide (ret55v.2 = (0 : Int))) && (decide (ret62v.2 = (0 : Int)))) && (decide (ret69v.2 = (0 : Int)))) = true → True) ∧ True ∧ True ∧ (((((decide (ret55v.2 = (0 : Int))) && (decide (ret62v.2 = (0 : Int)))) && (decide (ret69v.2 = (0 : Int)))) && (decide (ret96v.2 = (0 : Int)))) = true → True) ∧ (((((decide (ret55v.2 = (0 : Int))) && (decide (ret62v.2 = (0 : Int)))) && (decide (ret69v.2 = (0 : Int)))) && (decide (ret96v.2 = (0 : Int)))) = true → True) ∧ (((((decide (ret55v.2 = (0 : Int))) && (decide (ret62v.2 = (0 : Int)))) && (decide (ret69v.2 = (0 : Int)))) && (decide (ret96v.2 = (0 : Int)))) = true → True) ∧ True ∧ True ∧ ((((((decide (ret55v.2 = (0 : Int))) && (decide (ret62v.2 = (0 : Int)))) && (decide (ret69v.2 = (0 : Int)))) && (decide (ret96v.2 = (0 : Int)))) && (ret55v.1 == ret62v.1)) = true → True) ∧ ((((((decide (ret55v.2 = (0 : Int))) && (decide (ret62v.2 = (0 : Int)))) && (decide (ret69v.2 = (0 : Int)))) && (decide (ret96v.2 = (0 : Int)))) && (ret55v.1 == ret62v.1)) = true → True) ∧ ((((((decide (ret55v.2 = (0 : Int))) && (decide (ret62v.2 = (0 : Int)))) && (decide (ret69v.2 = (0 : Int)))) && (decide (ret96v.2 = (0 : Int)))) && (ret55v.1 == ret62v.1)) = true → True) ∧ True ∧ True ∧ (((((((decide (ret55v.2 = (0 : Int))) && (decide (ret62v.2 = (0 : Int)))) && (decide (ret69v.2 = (0 : Int)))) && (decide (ret96v.2 = (0 : Int)))) && (ret55v.1 == ret62v.1)) && (ret55v.1 == ret69v.1)) = true → True) ∧ (((((((decide (ret55v.2 = (0 : Int))) && (decide (ret62v.2 = (0 : Int)))) && (decide (ret69v.2 = (0 : Int)))) && (decide (ret96v.2 = (0 : Int)))) && (ret55v.1 == ret62v.1)) && (ret55v.1 == ret69v.1)) = true → True) ∧ (((((((decide (ret55v.2 = (0 : Int))) && (decide (ret62v.2 = (0 : Int)))) && (decide (ret69v.2 = (0 : Int)))) && (decide (ret96v.2 = (0 : Int)))) && (ret55v.1 == ret62v.1)) && (ret55v.1 == ret69v.1)) = true → True) ∧ (((((((decide (ret55v.2 = (0 : Int))) && (decide (ret62v.2 = (0 : Int)))) && (decide (ret69v.2 = (0 : Int)))) && (decide (ret96v.2 = (0 : Int)))) && (ret55v.1 == ret62v.1)) && (ret55v.1 == ret69v.1)) = true → ((!ret96v.1) = false → True)) ∧ (((((((decide (ret55v.2 = (0 : Int))) && (decide (ret62v.2 = (0 : Int)))) && (decide (ret69v.2 = (0 : Int)))) && (decide (ret96v.2 = (0 : Int)))) && (ret55v.1 == ret62v.1)) && (ret55v.1 == ret69v.1)) = true → True) ∧ True ∧ True ∧ ((((((((decide (ret55v.2 = (0 : Int))) && (decide (ret62v.2 = (0 : Int)))) && (decide (ret69v.2 = (0 : Int)))) && (decide (ret96v.2 = (0 : Int)))) && (ret55v.1 == ret62v.1)) && (ret55v.1 == ret69v.1)) && ((!ret96v.1) || ret55v.1)) = true → True) ∧ ((((((((decide (ret55v.2 = (0 : Int))) && (decide (ret62v.2 = (0 : Int)))) && (decide (ret69v.2 = (0 : Int)))) && (decide (ret96v.2 = (0 : Int)))) && (ret55v.1 == ret62v.1)) && (ret55v.1 == ret69v.1)) && ((!ret96v.1) || ret55v.1)) = true → True) ∧ ((((((((decide (ret55v.2 = (0 : Int))) && (decide (ret62v.2 = (0 : Int)))) && (decide (ret69v.2 = (0 : Int)))) && (decide (ret96v.2 = (0 : Int)))) && (ret55v.1 == ret62v.1)) && (ret55v.1 == ret69v.1)) && ((!ret96v.1) || ret55v.1)) = true → True) ∧ ((((((((decide (ret55v.2 = (0 : Int))) && (decide (ret62v.2 = (0 : Int)))) && (decide (ret69v.2 = (0 : Int)))) && (decide (ret96v.2 = (0 : Int)))) && (ret55v.1 == ret62v.1)) && (ret55v.1 == ret69v.1)) && ((!ret96v.1) || ret55v.1)) = true → True) ∧ ((((((((decide (ret55v.2 = (0 : Int))) && (decide (ret62v.2 = (0 : Int)))) && (decide (ret69v.2 = (0 : Int)))) && (decide (ret96v.2 = (0 : Int)))) && (ret55v.1 == ret62v.1)) && (ret55v.1 == ret69v.1)) && ((!ret96v.1) || ret55v.1)) = true → ((decide ((0 : Int) < (w.length : Int))) = false → True)) ∧ ((((((((decide (ret55v.2 = (0 : Int))) && (decide (ret62v.2 = (0 : Int)))) && (decide (ret69v.2 = (0 : Int)))) && (decide (ret96v.2 = (0 : Int)))) && (ret55v.1 == ret62v.1)) && (ret55v.1 == ret69v.1)) && ((!ret96v.1) || ret55v.1)) = true → True) ∧ True ∧ True ∧ True)) (st' := (⟨138, [(6, [], .v (.c (.p .bool ((((((((decide (ret55v.2 = (0 : Int))) && (decide (ret62v.2 = (0 : Int)))) && (decide (ret69v.2 = (0 : Int)))) && (decide (ret96v.2 = (0 : Int)))) && (ret55v.1 == ret62v.1)) && (ret55v.1 == ret69v.1)) && ((!ret96v.1) || ret55v.1)) && ((decide ((0 : Int) < (w.length : Int))) || ret55v.1)))))], []⟩ : St)) (by kernel_rfl) ⟨trivial, trivial, trivial, (fun _ => trivial), (fun _ => trivial), trivial, trivial, (fun _ => trivial), (fun _ => trivial), trivial, trivial, (fun _ => trivial), (fun _ => trivial), trivial, trivial, (fun _ => trivial), (fun _ => trivial), (fun _ => trivial), trivial, trivial, (fun _ => trivial), (fun _ => trivial), (fun _ => trivial), trivial, trivial, (fun _ => trivial), (fun _ => trivial), (fun _ => trivial), (fun _ _ => trivial), (fun _ => trivial), trivial, trivial, (fun _ => trivial), (fun _ => trivial), (fun _ => trivial), (fun _ => trivial), (fun _ _ => trivial), (fun _ => trivial), trivial, trivial, trivial⟩ ?_
      refine awl_nil ?_
      refine thenQ_n ?_
      refine aw_ret ?_
      exact retQ_r (σ := Bool) (R := (fun y => [toV1 .bool y])) (ob := (True ∧ True)) ((((((((decide (ret55v.2 = (0 : Int))) && (decide (ret62v.2 = (0 : Int)))) && (decide (ret69v.2 = (0 : Int)))) && (decide (ret96v.2 = (0 : Int)))) && (ret55v.1 == ret62v.1)) && (ret55v.1 == ret69v.1)) && ((!ret96v.1) || ret55v.1)) && ((decide ((0 : Int) < (w.length : Int))) || ret55v.1)) (by kernel_rfl) ⟨trivial, trivial⟩ h

-- slices.Clone[[]coppicer/api.Node,coppicer/api.Node]
def VC48 (sv : (List (Int × (Int × Int)))) (K : (List (Int × (Int × Int))) → Prop) : Prop :=
  (∀ nil4 : Bool, (nil4 = true → sv = []) → ((nil4 = true → K ([] : List (Int × (Int × Int)))) ∧ (nil4 = false → (roomN (([] : List (Int × (Int × Int))).length + sv.length) ∧ K (([] : List (Int × (Int × Int))) ++ sv)))))

set_option maxHeartbeats 4000000 in
theorem link48 (sv : (List (Int × (Int × Int)))) (K : (List (Int × (Int × Int))) → Prop) (h : VC48 sv K) : ACallsO Try.prog 48 [toV1 (.sl (.pr (.int .i64) (.pr (.int .i64) (.int .i64)))) sv] 50 (.pr (.int .i64) (.pr (.int .i64) (.int .i64))) K := by
  refine acallsO_of_aw 2 Try.func48 rfl rfl rfl ?_
  unfold VC48 at h
  refine aw_seq ?_
  refine aw_region ?_
  refine awl_runp 1 [0] [] (ob := (True ∧ True)) (st' := (⟨8, [(0, [], .v (.c (.p (.sl (.pr (.int .i64) (.pr (.int .i64) (.int .i64)))) sv)))], []⟩ : St)) (by kernel_rfl) ⟨trivial, trivial⟩ ?_
  refine awl_nil ?_
  refine thenQ_n ?_
  refine aw_seq ?_
  refine aw_seq ?_
  refine aw_region ?_
  refine awl_runp 1 [0, 3] [] (ob := (True ∧ True)) (st' := (⟨8, [(0, [], .v (.c (.p (.sl (.pr (.int .i64) (.pr (.int .i64) (.int .i64)))) sv))), (3, [], .v (.c (.p (.sl (.pr (.int .i64) (.pr (.int .i64) (.int .i64)))) sv)))], []⟩ : St)) (by kernel_rfl) ⟨trivial, trivial⟩ ?_
  refine awl_nil_eql [0, 4] [] (fun nil4 => (⟨8, [(0, [], .v (.c (.p (.sl (.pr (.int .i64) (.pr (.int .i64) (.int .i64)))) sv))), (4, [], .v (.c (.p .bool nil4)))], []⟩ : St)) rfl rfl (by kernel_rfl) rfl (e := 50) (by kernel_rfl) (l := sv) (u := (.pr (.int .i64) (.pr (.int .i64) (.int .i64)))) (by kernel_rfl) (fun nil4 => by kernel_rfl) (fun nil4 hnil => ?_)
  have h := h nil4 hnil
  refine awl_nil ?_
  refine thenQ_n ?_
  refine aw_cond (b := nil4) (by kernel_rfl) (fun hb => ?_) (fun hb => ?_)
  · have h := h.1 hb
    refine aw_seq ?_
    refine aw_region ?_
    refine awl_runp 1 [2] [] (ob := (True ∧ True)) (st' := (⟨8, [(2, [], .v (.c (.nils)))], []⟩ : St)) (by kernel_rfl) ⟨trivial, trivial⟩ ?_
    refine awl_nil ?_
    refine thenQ_n ?_
    refine aw_conv [.nilOwn 2 5002 50 (.pr (.int .i64) (.pr (.int .i64) (.int .i64)))] (st' := (⟨8, [(2, [], .v (.c (.own 5002)))], [(5002, [], .arr 50 (.pr (.int .i64) (.pr (.int .i64) (.int .i64))) ([] : List (Int × (Int × Int))))]⟩ : St)) (by kernel_rfl) ?_
    refine aw_ret ?_
    refine thenQ_r ?_
    exact ⟨5002, _, by kernel_rfl, by kernel_rfl, h⟩
  · have h := h.2 hb
    refine aw_skip ?_
    refine thenQ_n ?_
    refine aw_seq ?_
    refine aw_region ?_
    obtain ⟨o1, h⟩ := h
    refine awl_runp 4 [2] [7] (ob := (True ∧ True ∧ roomN (([] : List (Int × (Int × Int))).length + sv.length) ∧ True ∧ True)) (st' := (⟨8, [(2, [], .v (.c (.own 7)))], [(7, [], .arr 50 (.pr (.int .i64) (.pr (.int .i64) (.int .i64))) (([] : List (Int × (Int × Int))) ++ sv))]⟩ : St)) (by kernel_rfl) ⟨trivial, trivial, o1, trivial, trivial⟩ ?_
    refine awl_nil ?_
    refine thenQ_n ?_
    refine aw_ret ?_
    exact ⟨7, _, by kernel_rfl, by kernel_rfl, h⟩

-- coppicer/sentence.Back
def VC25_k1 (K : (List (Int × (Int × Int))) × Int → Prop) (out : (List (Int × (Int × Int)))) : Prop :=
  K (out, (0 : Int))

def VC25_k2 (v20 : Int) (X1 : Int × (List (Int × (Int × Int))) → Prop) (out2 : (List (Int × (Int × Int)))) : Prop :=
  (InR (v20 + (1 : Int)) ∧ X1 ((v20 + (1 : Int)), out2))

def VC25_l1 (K : (List (Int × (Int × Int))) × Int → Prop) (ret17v : (List (Int × (Int × Int)))) (v20 : Int) (out : (List (Int × (Int × Int)))) (X1 : Int × (List (Int × (Int × Int))) → Prop) : Prop :=
  (((decide (v20 < (ret17v.length : Int))) = true → (inIdx v20 out.length ∧ (((decide ((out.getD ((v20).toNat) ((0 : Int), ((0 : Int), (0 : Int)))).1 = (4 : Int))) = true → (inIdx v20 out.length ∧ (inIdx v20 (out.set ((v20).toNat) ((out.getD ((v20).toNat) ((0 : Int), ((0 : Int), (0 : Int)))).1, ((out.getD ((v20).toNat) ((0 : Int), ((0 : Int), (0 : Int)))).2.2, (out.getD ((v20).toNat) ((0 : Int), ((0 : Int), (0 : Int)))).2.2))).length ∧ VC25_k2 v20 X1 ((out.set ((v20).toNat) ((out.getD ((v20).toNat) ((0 : Int), ((0 : Int), (0 : Int)))).1, ((out.getD ((v20).toNat) ((0 : Int), ((0 : Int), (0 : Int)))).2.2, (out.getD ((v20).toNat) ((0 : Int), ((0 : Int), (0 : Int)))).2.2))).set ((v20).toNat) (((out.set ((v20).toNat) ((out.getD ((v20).toNat) ((0 : Int), ((0 : Int), (0 : Int)))).1, ((out.getD ((v20).toNat) ((0 : Int), ((0 : Int), (0 : Int)))).2.2, (out.getD ((v20).toNat) ((0 : Int), ((0 : Int), (0 : Int)))).2.2))).getD ((v20).toNat) ((0 : Int), ((0 : Int), (0 : Int)))).1, (((out.set ((v20).toNat) ((out.getD ((v20).toNat) ((0 : Int), ((0 : Int), (0 : Int)))).1, ((out.getD ((v20).toNat) ((0 : Int), ((0 : Int), (0 : Int)))).2.2, (out.getD ((v20).toNat) ((0 : Int), ((0 : Int), (0 : Int)))).2.2))).getD ((v20).toNat) ((0 : Int), ((0 : Int), (0 : Int)))).2.1, (out.getD ((v20).toNat) ((0 : Int), ((0 : Int), (0 : Int)))).2.1)))))) ∧ ((decide ((out.getD ((v20).toNat) ((0 : Int), ((0 : Int), (0 : Int)))).1 = (4 : Int))) = false → VC25_k2 v20 X1 out)))) ∧ ((decide (v20 < (ret17v.length : Int))) = false → VC25_k1 K out))

def VC25 (k : Int) (l : (List (Int × (Int × Int)))) (K : (List (Int × (Int × Int))) × Int → Prop) : Prop :=
  VC45 k l (fun (ret12v : Int) => (((!decide (ret12v = (0 : Int))) = true → K (([] : (List (Int × (Int × Int)))), ret12v)) ∧ ((!decide (ret12v = (0 : Int))) = false → VC48 l (fun (ret17v : (List (Int × (Int × Int)))) => Loop (σ := Int × (List (Int × (Int × Int)))) (fun s X => VC25_l1 K ret17v s.1 s.2 X) ((0 : Int), ret17v)))))

set_option maxHeartbeats 4000000 in
theorem link25 (k : Int) (l : (List (Int × (Int × Int)))) (K : (List (Int × (Int × Int))) × Int → Prop) (h : VC25 k l K) : ACalls Try.prog 25 [toV1 (.int .i64) k, toV1 (.sl (.pr (.int .i64) (.pr (.int .i64) (.int .i64)))) l] (fun res => ∃ y, res = (fun y => [toV1 (.sl (.pr (.int .i64) (.pr (.int .i64) (.int .i64)))) y.1, toV1 (.int .i64) y.2]) y ∧ K y) := by
  refine acalls_of_aw [(.sl (.pr (.int .i64) (.pr (.int .i64) (.int .i64)))), (.int .i64)] [.t 4, .t 5] Try.func25 rfl rfl rfl ?_
  unfold VC25 at h
  refine aw_seq ?_
  refine aw_region ?_
  refine awl_runp 2 [0, 1] [] (ob := (True ∧ True ∧ True)) (st' := (⟨42, [(0, [], .v (.c (.p (.int .i64) k))), (1, [], .v (.c (.p (.sl (.pr (.int .i64) (.pr (.int .i64) (.int .i64)))) l)))], []⟩ : St)) (by kernel_rfl) ⟨trivial, trivial, trivial⟩ ?_
  refine awl_nil ?_
  refine thenQ_n ?_
  refine aw_seq ?_
  refine aw_seq ?_
  refine aw_region ?_
  refine awl_runp 2 [1, 10, 11] [] (ob := (True ∧ True ∧ True)) (st' := (⟨42, [(1, [], .v (.c (.p (.sl (.pr (.int .i64) (.pr (.int .i64) (.int .i64)))) l))), (10, [], .v (.c (.p (.int .i64) k))), (11, [], .v (.c (.p (.sl (.pr (.int .i64) (.pr (.int .i64) (.int .i64)))) l)))], []⟩ : St)) (by kernel_rfl) ⟨trivial, trivial, trivial⟩ ?_
  refine awl_callk (p := []) (l := [toV1 (.int .i64) k, toV1 (.sl (.pr (.int .i64) (.pr (.int .i64) (.int .i64)))) l]) (cl := []) false [.d (.int .i64), .d (.sl (.pr (.int .i64) (.pr (.int .i64) (.int .i64))))] [1, 12] [] (fun (ret12v : Int) => (((!decide (ret12v = (0 : Int))) = true → K (([] : (List (Int × (Int × Int)))), ret12v)) ∧ ((!decide (ret12v = (0 : Int))) = false → VC48 l (fun (ret17v : (List (Int × (Int × Int)))) => Loop (σ := Int × (List (Int × (Int × Int)))) (fun s X => VC25_l1 K ret17v s.1 s.2 X) ((0 : Int), ret17v))))) (fun ret12v => [toV1 (.int .i64) ret12v]) (fun ret12v => (⟨42, [(1, [], .v (.c (.p (.sl (.pr (.int .i64) (.pr (.int .i64) (.int .i64)))) l))), (12, [], .v (.c (.p (.int .i64) ret12v)))], []⟩ : St)) (by kernel_rfl) rfl (by kernel_rfl) rfl (by kernel_rfl) Try.call45 (by kernel_rfl) (fun ret12v => by kernel_rfl) (fun e => by cases e) (fun hg => link45 k l _ h) (fun hg => noF hg) (fun ret12v h => ?_)
  have h : (((!decide (ret12v = (0 : Int))) = true → K (([] : (List (Int × (Int × Int)))), ret12v)) ∧ ((!decide (ret12v = (0 : Int))) = false → VC48 l (fun (ret17v : (List (Int × (Int × Int)))) => Loop (σ := Int × (List (Int × (Int × Int)))) (fun s X => VC25_l1 K ret17v s.1 s.2 X) ((0 : Int), ret17v)))) := h
  refine awl_runp 1 [1, 6] [] (ob := (True ∧ True)) (st' := (⟨42, [(1, [], .v (.c (.p (.sl (.pr (.int .i64) (.pr (.int .i64) (.int .i64)))) l))), (6, [], .v (.c (.p (.int .i64) ret12v)))], []⟩ : St)) (by kernel_rfl) ⟨trivial, trivial⟩ ?_
  refine awl_nil ?_
  refine thenQ_n ?_
  refine aw_seq ?_
  refine aw_region ?_
  refine awl_runp 2 [1, 6, 14] [] (ob := (True ∧ True ∧ True)) (st' := (⟨42, [(1, [], .v (.c (.p (.sl (.pr (.int .i64) (.pr (.int .i64) (.int .i64)))) l))), (6, [], .v (.c (.p (.int .i64) ret12v))), (14, [], .v (.c (.p .bool (!decide (ret12v = (0 : Int))))))], []⟩ : St)) (by kernel_rfl) ⟨trivial, trivial, trivial⟩ ?_
  refine awl_nil ?_
  refine thenQ_n ?_
  refine aw_cond (b := (!decide (ret12v = (0 : Int)))) (by kernel_rfl) (fun hb => ?_) (fun hb => ?_)
  · have h := h.1 hb
    refine aw_seq ?_
    refine aw_region ?_
    refine awl_runp 3 [4, 5] [] (ob := (True ∧ True ∧ True ∧ True)) (st' := (⟨42, [(4, [], .v (.c (.nils))), (5, [], .v (.c (.p (.int .i64) ret12v)))], []⟩ : St)) (by kernel_rfl) ⟨trivial, trivial, trivial, trivial⟩ ?_
    refine awl_nil ?_
    refine thenQ_n ?_
    refine aw_ret ?_
    refine thenQ_r ?_
    exact retQ_r (σ := (List (Int × (Int × Int))) × Int) (R := (fun y => [toV1 (.sl (.pr (.int .i64) (.pr (.int .i64) (.int .i64)))) y.1, toV1 (.int .i64) y.2])) (ob := (True ∧ True ∧ True)) (([] : (List (Int × (Int × Int)))), ret12v) (by kernel_rfl) ⟨trivial, trivial, trivial⟩ h
  · have h := h.2 hb
    refine aw_skip ?_
    refine thenQ_n ?_
    refine aw_seq ?_
    refine aw_region ?_
    refine awl_runp 1 [16] [] (ob := (True ∧ True)) (st' := (⟨42, [(16, [], .v (.c (.p (.sl (.pr (.int .i64) (.pr (.int .i64) (.int .i64)))) l)))], []⟩ : St)) (by kernel_rfl) ⟨trivial, trivial⟩ ?_
    refine awl_callOk (e := 50) (t := (.pr (.int .i64) (.pr (.int .i64) (.int .i64)))) (l := [toV1 (.sl (.pr (.int .i64) (.pr (.int .i64) (.int .i64)))) l]) (cl := []) false [.d (.sl (.pr (.int .i64) (.pr (.int .i64) (.int .i64))))] [17] [17] (fun (ret17v : (List (Int × (Int × Int)))) => Loop (σ := Int × (List (Int × (Int × Int)))) (fun s X => VC25_l1 K ret17v s.1 s.2 X) ((0 : Int), ret17v)) (fun ret17v => (⟨42, [(17, [], .v (.c (.own 17)))], [(17, [], .arr 50 (.pr (.int .i64) (.pr (.int .i64) (.int .i64))) ret17v)]⟩ : St)) rfl rfl (by kernel_rfl) rfl (by kernel_rfl) Try.call48 (by kernel_rfl) (fun e => by cases e) (fun ret17v => by kernel_rfl) (link48 l _ h) (fun ret17v h => ?_)
    have h : Loop (σ := Int × (List (Int × (Int × Int)))) (fun s X => VC25_l1 K ret17v s.1 s.2 X) ((0 : Int), ret17v) := h
    refine awl_runp 1 [7] [17] (ob := (True ∧ True)) (st' := (⟨42, [(7, [], .v (.c (.own 17)))], [(17, [], .arr 50 (.pr (.int .i64) (.pr (.int .i64) (.int .i64))) ret17v)]⟩ : St)) (by kernel_rfl) ⟨trivial, trivial⟩ ?_
    refine awl_nil ?_
    refine thenQ_n ?_
    refine aw_seq ?_
    refine aw_seq ?_
    refine aw_region ?_
    refine awl_runp 3 [7, 18, 19, 20] [17] (ob := (True ∧ True ∧ True ∧ True)) (st' := (⟨42, [(7, [], .v (.c (.own 17))), (18, [], .v (.c (.own 17))), (19, [], .v (.c (.p (.int .i64) (ret17v.length : Int)))), (20, [], .v (.c (.p (.int .i64) (0 : Int))))], [(17, [], .arr 50 (.pr (.int .i64) (.pr (.int .i64) (.int .i64))) ret17v)]⟩ : St)) (by kernel_rfl) ⟨trivial, trivial, trivial, trivial⟩ ?_
    refine awl_nil ?_
    refine thenQ_n ?_
    refine withJoin (σ := (List (Int × (Int × Int)))) (fun s => (⟨42, [(7, [], .v (.c (.own 17)))], [(17, [], .arr 50 (.pr (.int .i64) (.pr (.int .i64) (.int .i64))) s)]⟩ : St)) (fun s => VC25_k1 K s) (fun out h => ?_) (fun rest1 => ?_)
    · have h : VC25_k1 K out := h
      unfold VC25_k1 at h
      refine thenQ_n ?_
      refine aw_seq ?_
      refine aw_region ?_
      refine awl_runp 3 [4, 5] [17] (ob := (True ∧ True ∧ True ∧ True)) (st' := (⟨42, [(4, [], .v (.c (.own 17))), (5, [], .v (.c (.p (.int .i64) (0 : Int))))], [(17, [], .arr 50 (.pr (.int .i64) (.pr (.int .i64) (.int .i64))) out)]⟩ : St)) (by kernel_rfl) ⟨trivial, trivial, trivial, trivial⟩ ?_
      refine awl_nil ?_
      refine thenQ_n ?_
      refine aw_conv [.freeze 17] (st' := (⟨42, [(4, [], .v (.c (.p (.sl (.pr (.int .i64) (.pr (.int .i64) (.int .i64)))) out))), (5, [], .v (.c (.p (.int .i64) (0 : Int))))], []⟩ : St)) (by kernel_rfl) ?_
      refine aw_ret ?_
      exact retQ_r (σ := (List (Int × (Int × Int))) × Int) (R := (fun y => [toV1 (.sl (.pr (.int .i64) (.pr (.int .i64) (.int .i64)))) y.1, toV1 (.int .i64) y.2])) (ob := (True ∧ True ∧ True)) (out, (0 : Int)) (by kernel_rfl) ⟨trivial, trivial, trivial⟩ h
    · refine aw_block ?_
      refine aw_loop (σ := Int × (List (Int × (Int × Int)))) (fun s => (⟨42, [(7, [], .v (.c (.own 17))), (18, [], .v (.c (.own 17))), (19, [], .v (.c (.p (.int .i64) (ret17v.length : Int)))), (20, [], .v (.c (.p (.int .i64) s.1)))], [(17, [], .arr 50 (.pr (.int .i64) (.pr (.int .i64) (.int .i64))) s.2)]⟩ : St)) (fun s X => VC25_l1 K ret17v s.1 s.2 X) (s0 := ((0 : Int), ret17v)) (fun s X1 h => ?_) h
      obtain ⟨v20, out⟩ := s
      have h : VC25_l1 K ret17v v20 out X1 := h
      unfold VC25_l1 at h
      refine aw_seq ?_
      refine aw_region ?_
      refine awl_runp 1 [7, 18, 19, 20, 21] [17] (ob := (True ∧ True)) (st' := (⟨42, [(7, [], .v (.c (.own 17))), (18, [], .v (.c (.own 17))), (19, [], .v (.c (.p (.int .i64) (ret17v.length : Int)))), (20, [], .v (.c (.p (.int .i64) v20))), (21, [], .v (.c (.p .bool (decide (v20 < (ret17v.length : Int))))))], [(17, [], .arr 50 (.pr (.int .i64) (.pr (.int .i64) (.int .i64))) out)]⟩ : St)) (by kernel_rfl) ⟨trivial, trivial⟩ ?_
      refine awl_nil ?_
      refine thenQ_n ?_
      refine aw_seq ?_
      refine aw_cond (b := (decide (v20 < (ret17v.length : Int)))) (by kernel_rfl) (fun hb => ?_) (fun hb => ?_)
      · have h := h.1 hb
        refine aw_skip ?_
        refine thenQ_n ?_
        refine aw_seq ?_
        refine aw_block ?_
        refine aw_seq ?_
        refine aw_region ?_
        obtain ⟨o1, h⟩ := h
        refine awl_runp 6 [7, 8, 9, 18, 19, 20] [9, 17] (ob := (True ∧ inIdx v20 out.length ∧ True ∧ True ∧ True ∧ True ∧ True)) (st' := (⟨42, [(7, [], .v (.c (.own 17))), (8, [], .v (.c (.p (.int .i64) v20))), (9, [], .v (.c (.ptr 9 0))), (18, [], .v (.c (.own 17))), (19, [], .v (.c (.p (.int .i64) (ret17v.length : Int)))), (20, [], .v (.c (.p (.int .i64) v20)))], [(9, [], .box [.p (.int .i64) ((out.getD ((v20).toNat) ((0 : Int), ((0 : Int), (0 : Int)))).1), .p (.int .i64) ((out.getD ((v20).toNat) ((0 : Int), ((0 : Int), (0 : Int)))).2.1), .p (.int .i64) ((out.getD ((v20).toNat) ((0 : Int), ((0 : Int), (0 : Int)))).2.2)]), (17, [], .arr 50 (.pr (.int .i64) (.pr (.int .i64) (.int .i64))) out)]⟩ : St)) (by kernel_rfl) ⟨trivial, o1, trivial, trivial, trivial, trivial, trivial⟩ ?_
        refine awl_nil ?_
        refine thenQ_n ?_
        refine aw_seq ?_
        refine aw_region ?_
        refine awl_runp 3 [7, 8, 9, 18, 19, 20, 27] [9, 17] (ob := (True ∧ True ∧ True ∧ True)) (st' := (⟨42, [(7, [], .v (.c (.own 17))), (8, [], .v (.c (.p (.int .i64) v20))), (9, [], .v (.c (.ptr 9 0))), (18, [], .v (.c (.own 17))), (19, [], .v (.c (.p (.int .i64) (ret17v.length : Int)))), (20, [], .v (.c (.p (.int .i64) v20))), (27, [], .v (.c (.p .bool (decide ((out.getD ((v20).toNat) ((0 : Int), ((0 : Int), (0 : Int)))).1 = (4 : Int))))))], [(9, [], .box [.p (.int .i64) ((out.getD ((v20).toNat) ((0 : Int), ((0 : Int), (0 : Int)))).1), .p (.int .i64) ((out.getD ((v20).toNat) ((0 : Int), ((0 : Int), (0 : Int)))).2.1), .p (.int .i64) ((out.getD ((v20).toNat) ((0 : Int), ((0 : Int), (0 : Int)))).2.2)]), (17, [], .arr 50 (.pr (.int .i64) (.pr (.int .i64) (.int .i64))) out)]⟩ : St)) (by kernel_rfl) ⟨trivial, trivial, trivial, trivial⟩ ?_
        refine awl_nil ?_
        refine thenQ_n ?_
        refine withJoin (σ := (List (Int × (Int × Int)))) (fun s => (⟨42, [(7, [], .v (.c (.own 17))), (18, [], .v (.c (.own 17))), (19, [], .v (.c (.p (.int .i64) (ret17v.length : Int)))), (20, [], .v (.c (.p (.int .i64) v20)))], [(17, [], .arr 50 (.pr (.int .i64) (.pr (.int .i64) (.int .i64))) s)]⟩ : St)) (fun s => VC25_k2 v20 X1 s) (fun out2 h => ?_) (fun rest2 => ?_)
        · have h : VC25_k2 v20 X1 out2 := h
          unfold VC25_k2 at h
          refine blockQ_n ?_
          refine thenQ_n ?_
          refine aw_region ?_
          obtain ⟨o1, h⟩ := h
          refine awl_runp 2 [7, 18, 19, 20] [17] (ob := (InR (v20 + (1 : Int)) ∧ True ∧ True)) (st' := (⟨42, [(7, [], .v (.c (.own 17))), (18, [], .v (.c (.own 17))), (19, [], .v (.c (.p (.int .i64) (ret17v.length : Int)))), (20, [], .v (.c (.p (.int .i64) (v20 + (1 : Int)))))], [(17, [], .arr 50 (.pr (.int .i64) (.pr (.int .i64) (.int .i64))) out2)]⟩ : St)) (by kernel_rfl) ⟨o1, trivial, trivial⟩ ?_
          refine awl_nil ?_
          exact thenQ_n ⟨((v20 + (1 : Int)), out2), rfl, h⟩
        · refine aw_cond (b := (decide ((out.getD ((v20).toNat) ((0 : Int), ((0 : Int), (0 : Int)))).1 = (4 : Int)))) (by kernel_rfl) (fun hb => ?_) (fun hb => ?_)
          · have h := h.1 hb
            refine awd_begin [17] (by kernel_rfl) ?_
            obtain ⟨o1, h⟩ := h
            refine awd_runp (by kernel_rfl) [0, 1, 2, 3, 4, 5, 6, 7, 8, 9] [7, 18, 19, 20, 30, 31, 33, 35, 37] [17] (ob := (True ∧ True ∧ True ∧ True ∧ True ∧ True ∧ True ∧ True ∧ inIdx v20 out.length ∧ True ∧ True)) (done' := [9, 8, 7, 6, 5, 4, 3, 2, 1, 0]) (st' := (⟨42, [(7, [], .v (.c (.own 17))), (18, [], .v (.c (.own 17))), (19, [], .v (.c (.p (.int .i64) (ret17v.length : Int)))), (20, [], .v (.c (.p (.int .i64) v20))), (30, [], .v (.c (.own 17))), (31, [], .v (.c (.p (.int .i64) v20))), (33, [], .v (.c (.p (.int .i64) ((out.getD ((v20).toNat) ((0 : Int), ((0 : Int), (0 : Int)))).2.2)))), (35, [], .v (.c (.p (.int .i64) ((out.getD ((v20).toNat) ((0 : Int), ((0 : Int), (0 : Int)))).2.1)))), (37, [], .v (.c (.elf 17 ((v20).toNat) 3 1)))], [(17, [], .arr 50 (.pr (.int .i64) (.pr (.int .i64) (.int .i64))) out)]⟩ : St)) (by kernel_rfl) ⟨trivial, trivial, trivial, trivial, trivial, trivial, trivial, trivial, o1, trivial, trivial⟩ ?_
            refine awd_one (i := 10) (by kernel_rfl) ?_
            refine adop_stepp [7, 18, 19, 20, 30, 31, 35] [17] (ob := True) (st' := (⟨42, [(7, [], .v (.c (.own 17))), (18, [], .v (.c (.own 17))), (19, [], .v (.c (.p (.int .i64) (ret17v.length : Int)))), (20, [], .v (.c (.p (.int .i64) v20))), (30, [], .v (.c (.own 17))), (31, [], .v (.c (.p (.int .i64) v20))), (35, [], .v (.c (.p (.int .i64) ((out.getD ((v20).toNat) ((0 : Int), ((0 : Int), (0 : Int)))).2.1))))], [(17, [], .arr 50 (.pr (.int .i64) (.pr (.int .i64) (.int .i64))) (out.set ((v20).toNat) ((out.getD ((v20).toNat) ((0 : Int), ((0 : Int), (0 : Int)))).1, ((out.getD ((v20).toNat) ((0 : Int), ((0 : Int), (0 : Int)))).2.2, (out.getD ((v20).toNat) ((0 : Int), ((0 : Int), (0 : Int)))).2.2))))]⟩ : St)) rfl (by kernel_rfl) trivial ?_
            obtain ⟨o1, h⟩ := h
            refine awd_runp (by kernel_rfl) [11, 12] [7, 18, 19, 20, 35, 39] [17] (ob := (inIdx v20 (out.set ((v20).toNat) ((out.getD ((v20).toNat) ((0 : Int), ((0 : Int), (0 : Int)))).1, ((out.getD ((v20).toNat) ((0 : Int), ((0 : Int), (0 : Int)))).2.2, (out.getD ((v20).toNat) ((0 : Int), ((0 : Int), (0 : Int)))).2.2))).length ∧ True ∧ True)) (done' := [12, 11, 10, 9, 8, 7, 6, 5, 4, 3, 2, 1, 0]) (st' := (⟨42, [(7, [], .v (.c (.own 17))), (18, [], .v (.c (.own 17))), (19, [], .v (.c (.p (.int .i64) (ret17v.length : Int)))), (20, [], .v (.c (.p (.int .i64) v20))), (35, [], .v (.c (.p (.int .i64) ((out.getD ((v20).toNat) ((0 : Int), ((0 : Int), (0 : Int)))).2.1)))), (39, [], .v (.c (.elf 17 ((v20).toNat) 3 2)))], [(17, [], .arr 50 (.pr (.int .i64) (.pr (.int .i64) (.int .i64))) (out.set ((v20).toNat) ((out.getD ((v20).toNat) ((0 : Int), ((0 : Int), (0 : Int)))).1, ((out.getD ((v20).toNat) ((0 : Int), ((0 : Int), (0 : Int)))).2.2, (out.getD ((v20).toNat) ((0 : Int), ((0 : Int), (0 : Int)))).2.2))))]⟩ : St)) (by kernel_rfl) ⟨o1, trivial, trivial⟩ ?_
            refine awd_one (i := 13) (by kernel_rfl) ?_
            refine adop_stepp [7, 18, 19, 20] [17] (ob := True) (st' := (⟨42, [(7, [], .v (.c (.own 17))), (18, [], .v (.c (.own 17))), (19, [], .v (.c (.p (.int .i64) (ret17v.length : Int)))), (20, [], .v (.c (.p (.int .i64) v20)))], [(17, [], .arr 50 (.pr (.int .i64) (.pr (.int .i64) (.int .i64))) ((out.set ((v20).toNat) ((out.getD ((v20).toNat) ((0 : Int), ((0 : Int), (0 : Int)))).1, ((out.getD ((v20).toNat) ((0 : Int), ((0 : Int), (0 : Int)))).2.2, (out.getD ((v20).toNat) ((0 : Int), ((0 : Int), (0 : Int)))).2.2))).set ((v20).toNat) (((out.set ((v20).toNat) ((out.getD ((v20).toNat) ((0 : Int), ((0 : Int), (0 : Int)))).1, ((out.getD ((v20).toNat) ((0 : Int), ((0 : Int), (0 : Int)))).2.2, (out.getD ((v20).toNat) ((0 : Int), ((0 : Int), (0 : Int)))).2.2))).getD ((v20).toNat) ((0 : Int), ((0 : Int), (0 : Int)))).1, (((out.set ((v20).toNat) ((out.getD ((v20).toNat) ((0 : Int), ((0 : Int), (0 : Int)))).1, ((out.getD ((v20).toNat) ((0 : Int), ((0 : Int), (0 : Int)))).2.2, (out.getD ((v20).toNat) ((0 : Int), ((0 : Int), (0 : Int)))).2.2))).getD ((v20).toNat) ((0 : Int), ((0 : Int), (0 : Int)))).2.1, (out.getD ((v20).toNat) ((0 : Int), ((0 : Int), (0 : Int)))).2.1))))]⟩ : St)) rfl (by kernel_rfl) trivial ?_
            refine awd_done (by kernel_rfl) ?_
            exact rest2 ((out.set ((v20).toNat) ((out.getD ((v20).toNat) ((0 : Int), ((0 : Int), (0 : Int)))).1, ((out.getD ((v20).toNat) ((0 : Int), ((0 : Int), (0 : Int)))).2.2, (out.getD ((v20).toNat) ((0 : Int), ((0 : Int), (0 : Int)))).2.2))).set ((v20).toNat) (((out.set ((v20).toNat) ((out.getD ((v20).toNat) ((0 : Int), ((0 : Int), (0 : Int)))).1, ((out.getD ((v20).toNat) ((0 : Int), ((0 : Int), (0 : Int)))).2.2, (out.getD ((v20).toNat) ((0 : Int), ((0 : Int), (0 : Int)))).2.2))).getD ((v20).toNat) ((0 : Int), ((0 : Int), (0 : Int)))).1, (((out.set ((v20).toNat) ((out.getD ((v20).toNat) ((0 : Int), ((0 : Int), (0 : Int)))).1, ((out.getD ((v20).toNat) ((0 : Int), ((0 : Int), (0 : Int)))).2.2, (out.getD ((v20).toNat) ((0 : Int), ((0 : Int), (0 : Int)))).2.2))).getD ((v20).toNat) ((0 : Int), ((0 : Int), (0 : Int)))).2.1, (out.getD ((v20).toNat) ((0 : Int), ((0 : Int), (0 : Int)))).2.1))) h
          · have h := h.2 hb
            refine aw_conv [.prune [7, 18, 19, 20] [17]] (st' := (⟨42, [(7, [], .v (.c (.own 17))), (18, [], .v (.c (.own 17))), (19, [], .v (.c (.p (.int .i64) (ret17v.length : Int)))), (20, [], .v (.c (.p (.int .i64) v20)))], [(17, [], .arr 50 (.pr (.int .i64) (.pr (.int .i64) (.int .i64))) out)]⟩ : St)) (by kernel_rfl) ?_
            refine aw_skip ?_
            exact rest2 out h
      · have h := h.2 hb
        refine aw_conv [.prune [7] [17]] (st' := (⟨42, [(7, [], .v (.c (.own 17)))], [(17, [], .arr 50 (.pr (.int .i64) (.pr (.int .i64) (.int .i64))) out)]⟩ : St)) (by kernel_rfl) ?_
        refine aw_exit ?_
        refine thenQ_x ?_
        refine thenQ_x ?_
        refine blockQ_hit ?_
        exact rest1 out h

-- coppicer/coppicerkeep.SentenceBack
def VC7_k1 (k : Int) (l : (List (Int × (Int × Int)))) (K : Bool → Prop) (ret18v : (List (Int × (Int × Int))) × Int) (ret25v : Bool × Int) (back : (List Int)) : Prop :=
  VC23 k ret18v.1 back (fun (ret53v : Bool × Int) => K (((((decide (ret18v.2 = (0 : Int))) && (decide (ret25v.2 = (0 : Int)))) && (decide (ret53v.2 = (0 : Int)))) && (ret25v.1 == ret53v.1)) && (decide ((ret18v.1.length : Int) = (l.length : Int)))))

def VC7_l1 (k : Int) (l : (List (Int × (Int × Int)))) (w : (List Int)) (K : Bool → Prop) (ret18v : (List (Int × (Int × Int))) × Int) (ret25v : Bool × Int) (i : Int) (back : (List Int)) (X1 : Int × (List Int) → Prop) : Prop :=
  (((decide ((0 : Int) ≤ i)) = true → (inIdx i w.length ∧ roomN (back.length + [(w.getD (i).toNat (0 : Int))].length) ∧ (InR (i - (1 : Int)) ∧ X1 ((i - (1 : Int)), (back ++ [(w.getD (i).toNat (0 : Int))]))))) ∧ ((decide ((0 : Int) ≤ i)) = false → VC7_k1 k l K ret18v ret25v back))

def VC7 (k : Int) (l : (List (Int × (Int × Int)))) (w : (List Int)) (K : Bool → Prop) : Prop :=
  VC25 k l (fun (ret18v : (List (Int × (Int × Int))) × Int) => VC23 k l w (fun (ret25v : Bool × Int) => VC24 k l w (fun (ret31v : Bool) => (((!ret31v) = true → K (!decide (ret25v.2 = (0 : Int)))) ∧ ((!ret31v) = false → (InR ((w.length : Int) - (1 : Int)) ∧ Loop (σ := Int × (List Int)) (fun s X => VC7_l1 k l w K ret18v ret25v s.1 s.2 X) (((w.length : Int) - (1 : Int)), ([] : List Int))))))))

set_option maxHeartbeats 4000000 in
theorem link7 (k : Int) (l : (List (Int × (Int × Int)))) (w : (List Int)) (K : Bool → Prop) (h : VC7 k l w K) : ACalls Try.prog 7 [toV1 (.int .i64) k, toV1 (.sl (.pr (.int .i64) (.pr (.int .i64) (.int .i64)))) l, toV1 (.sl (.int .i64)) w] (fun res => ∃ y, res = (fun y => [toV1 .bool y]) y ∧ K y) := by
  refine acalls_of_aw [.bool] [.t 6] Try.func7 rfl rfl rfl ?_
  unfold VC7 at h
  refine aw_seq ?_
  refine aw_region ?_
  refine awl_runp 1 [0, 1, 2] [] (ob := (True ∧ True)) (st' := (⟨78, [(0, [], .v (.c (.p (.int .i64) k))), (1, [], .v (.c (.p (.sl (.pr (.int .i64) (.pr (.int .i64) (.int .i64)))) l))), (2, [], .v (.c (.p (.sl (.int .i64)) w)))], []⟩ : St)) (by kernel_rfl) ⟨trivial, trivial⟩ ?_
  refine awl_nil ?_
  refine thenQ_n ?_
  refine aw_seq ?_
  refine aw_region ?_
  refine awl_runp 2 [0, 1, 2, 16, 17] [] (ob := (True ∧ True ∧ True)) (st' := (⟨78, [(0, [], .v (.c (.p (.int .i64) k))), (1, [], .v (.c (.p (.sl (.pr (.int .i64) (.pr (.int .i64) (.int .i64)))) l))), (2, [], .v (.c (.p (.sl (.int .i64)) w))), (16, [], .v (.c (.p (.int .i64) k))), (17, [], .v (.c (.p (.sl (.pr (.int .i64) (.pr (.int .i64) (.int .i64)))) l)))], []⟩ : St)) (by kernel_rfl) ⟨trivial, trivial, trivial⟩ ?_
  refine awl_callk (p := []) (l := [toV1 (.int .i64) k, toV1 (.sl (.pr (.int .i64) (.pr (.int .i64) (.int .i64)))) l]) (cl := []) false [.d (.int .i64), .d (.sl (.pr (.int .i64) (.pr (.int .i64) (.int .i64))))] [0, 1, 2, 18] [] (fun (ret18v : (List (Int × (Int × Int))) × Int) => VC23 k l w (fun (ret25v : Bool × Int) => VC24 k l w (fun (ret31v : Bool) => (((!ret31v) = true → K (!decide (ret25v.2 = (0 : Int)))) ∧ ((!ret31v) = false → (InR ((w.length : Int) - (1 : Int)) ∧ Loop (σ := Int × (List Int)) (fun s X => VC7_l1 k l w K ret18v ret25v s.1 s.2 X) (((w.length : Int) - (1 : Int)), ([] : List Int)))))))) (fun ret18v => [toV1 (.sl (.pr (.int .i64) (.pr (.int .i64) (.int .i64)))) ret18v.1, toV1 (.int .i64) ret18v.2]) (fun ret18v => (⟨78, [(0, [], .v (.c (.p (.int .i64) k))), (1, [], .v (.c (.p (.sl (.pr (.int .i64) (.pr (.int .i64) (.int .i64)))) l))), (2, [], .v (.c (.p (.sl (.int .i64)) w))), (18, [], .tup [.c (.p (.sl (.pr (.int .i64) (.pr (.int .i64) (.int .i64)))) ret18v.1), .c (.p (.int .i64) ret18v.2)])], []⟩ : St)) (by kernel_rfl) rfl (by kernel_rfl) rfl (by kernel_rfl) Try.call25 (by kernel_rfl) (fun ret18v => by kernel_rfl) (fun e => by cases e) (fun hg => link25 k l _ h) (fun hg => noF hg) (fun ret18v h => ?_)
  have h : VC23 k l w (fun (ret25v : Bool × Int) => VC24 k l w (fun (ret31v : Bool) => (((!ret31v) = true → K (!decide (ret25v.2 = (0 : Int)))) ∧ ((!ret31v) = false → (InR ((w.length : Int) - (1 : Int)) ∧ Loop (σ := Int × (List Int)) (fun s X => VC7_l1 k l w K ret18v ret25v s.1 s.2 X) (((w.length : Int) - (1 : Int)), ([] : List Int))))))) := h
  refine awl_runp 5 [0, 1, 2, 7, 8] [] (ob := (True ∧ True ∧ True ∧ True ∧ True ∧ True)) (st' := (⟨78, [(0, [], .v (.c (.p (.int .i64) k))), (1, [], .v (.c (.p (.sl (.pr (.int .i64) (.pr (.int .i64) (.int .i64)))) l))), (2, [], .v (.c (.p (.sl (.int .i64)) w))), (7, [], .v (.c (.p (.sl (.pr (.int .i64) (.pr (.int .i64) (.int .i64)))) ret18v.1))), (8, [], .v (.c (.p (.int .i64) ret18v.2)))], []⟩ : St)) (by kernel_rfl) ⟨trivial, trivial, trivial, trivial, trivial, trivial⟩ ?_
  refine awl_nil ?_
  refine thenQ_n ?_
  refine aw_seq ?_
  refine aw_region ?_
  refine awl_runp 3 [0, 1, 2, 7, 8, 22, 23, 24] [] (ob := (True ∧ True ∧ True ∧ True)) (st' := (⟨78, [(0, [], .v (.c (.p (.int .i64) k))), (1, [], .v (.c (.p (.sl (.pr (.int .i64) (.pr (.int .i64) (.int .i64)))) l))), (2, [], .v (.c (.p (.sl (.int .i64)) w))), (7, [], .v (.c (.p (.sl (.pr (.int .i64) (.pr (.int .i64) (.int .i64)))) ret18v.1))), (8, [], .v (.c (.p (.int .i64) ret18v.2))), (22, [], .v (.c (.p (.int .i64) k))), (23, [], .v (.c (.p (.sl (.pr (.int .i64) (.pr (.int .i64) (.int .i64)))) l))), (24, [], .v (.c (.p (.sl (.int .i64)) w)))], []⟩ : St)) (by kernel_rfl) ⟨trivial, trivial, trivial, trivial⟩ ?_
  refine awl_callk (p := []) (l := [toV1 (.int .i64) k, toV1 (.sl (.pr (.int .i64) (.pr (.int .i64) (.int .i64)))) l, toV1 (.sl (.int .i64)) w]) (cl := []) false [.d (.int .i64), .d (.sl (.pr (.int .i64) (.pr (.int .i64) (.int .i64)))), .d (.sl (.int .i64))] [0, 1, 2, 7, 8, 25] [] (fun (ret25v : Bool × Int) => VC24 k l w (fun (ret31v : Bool) => (((!ret31v) = true → K (!decide (ret25v.2 = (0 : Int)))) ∧ ((!ret31v) = false → (InR ((w.length : Int) - (1 : Int)) ∧ Loop (σ := Int × (List Int)) (fun s X => VC7_l1 k l w K ret18v ret25v s.1 s.2 X) (((w.length : Int) - (1 : Int)), ([] : List Int))))))) (fun ret25v => [toV1 .bool ret25v.1, toV1 (.int .i64) ret25v.2]) (fun ret25v => (⟨78, [(0, [], .v (.c (.p (.int .i64) k))), (1, [], .v (.c (.p (.sl (.pr (.int .i64) (.pr (.int .i64) (.int .i64)))) l))), (2, [], .v (.c (.p (.sl (.int .i64)) w))), (7, [], .v (.c (.p (.sl (.pr (.int .i64) (.pr (.int .i64) (.int .i64)))) ret18v.1))), (8, [], .v (.c (.p (.int .i64) ret18v.2))), (25, [], .tup [.c (.p .bool ret25v.1), .c (.p (.int .i64) ret25v.2)])], []⟩ : St)) (by kernel_rfl) rfl (by kernel_rfl) rfl (by kernel_rfl) Try.call23 (by kernel_rfl) (fun ret25v => by kernel_rfl) (fun e => by cases e) (fun hg => link23 k l w _ h) (fun hg => noF hg) (fun ret25v h => ?_)
  have h : VC24 k l w (fun (ret31v : Bool) => (((!ret31v) = true → K (!decide (ret25v.2 = (0 : Int)))) ∧ ((!ret31v) = false → (InR ((w.length : Int) - (1 : Int)) ∧ Loop (σ := Int × (List Int)) (fun s X => VC7_l1 k l w K ret18v ret25v s.1 s.2 X) (((w.length : Int) - (1 : Int)), ([] : List Int)))))) := h
  refine awl_runp 5 [0, 1, 2, 7, 8, 9, 10] [] (ob := (True ∧ True ∧ True ∧ True ∧ True ∧ True)) (st' := (⟨78, [(0, [], .v (.c (.p (.int .i64) k))), (1, [], .v (.c (.p (.sl (.pr (.int .i64) (.pr (.int .i64) (.int .i64)))) l))), (2, [], .v (.c (.p (.sl (.int .i64)) w))), (7, [], .v (.c (.p (.sl (.pr (.int .i64) (.pr (.int .i64) (.int .i64)))) ret18v.1))), (8, [], .v (.c (.p (.int .i64) ret18v.2))), (9, [], .v (.c (.p .bool ret25v.1))), (10, [], .v (.c (.p (.int .i64) ret25v.2)))], []⟩ : St)) (by kernel_rfl) ⟨trivial, trivial, trivial, trivial, trivial, trivial⟩ ?_
  refine awl_nil ?_
  refine thenQ_n ?_
  refine aw_seq ?_
  refine aw_seq ?_
  refine aw_region ?_
  refine awl_runp 3 [0, 1, 2, 7, 8, 9, 10, 28, 29, 30] [] (ob := (True ∧ True ∧ True ∧ True)) (st' := (⟨78, [(0, [], .v (.c (.p (.int .i64) k))), (1, [], .v (.c (.p (.sl (.pr (.int .i64) (.pr (.int .i64) (.int .i64)))) l))), (2, [], .v (.c (.p (.sl (.int .i64)) w))), (7, [], .v (.c (.p (.sl (.pr (.int .i64) (.pr (.int .i64) (.int .i64)))) ret18v.1))), (8, [], .v (.c (.p (.int .i64) ret18v.2))), (9, [], .v (.c (.p .bool ret25v.1))), (10, [], .v (.c (.p (.int .i64) ret25v.2))), (28, [], .v (.c (.p (.int .i64) k))), (29, [], .v (.c (.p (.sl (.pr (.int .i64) (.pr (.int .i64) (.int .i64)))) l))), (30, [], .v (.c (.p (.sl (.int .i64)) w)))], []⟩ : St)) (by kernel_rfl) ⟨trivial, trivial, trivial, trivial⟩ ?_
  refine awl_callk (p := []) (l := [toV1 (.int .i64) k, toV1 (.sl (.pr (.int .i64) (.pr (.int .i64) (.int .i64)))) l, toV1 (.sl (.int .i64)) w]) (cl := []) false [.d (.int .i64), .d (.sl (.pr (.int .i64) (.pr (.int .i64) (.int .i64)))), .d (.sl (.int .i64))] [0, 1, 2, 7, 8, 9, 10, 31] [] (fun (ret31v : Bool) => (((!ret31v) = true → K (!decide (ret25v.2 = (0 : Int)))) ∧ ((!ret31v) = false → (InR ((w.length : Int) - (1 : Int)) ∧ Loop (σ := Int × (List Int)) (fun s X => VC7_l1 k l w K ret18v ret25v s.1 s.2 X) (((w.length : Int) - (1 : Int)), ([] : List Int)))))) (fun ret31v => [toV1 .bool ret31v]) (fun ret31v => (⟨78, [(0, [], .v (.c (.p (.int .i64) k))), (1, [], .v (.c (.p (.sl (.pr (.int .i64) (.pr (.int .i64) (.int .i64)))) l))), (2, [], .v (.c (.p (.sl (.int .i64)) w))), (7, [], .v (.c (.p (.sl (.pr (.int .i64) (.pr (.int .i64) (.int .i64)))) ret18v.1))), (8, [], .v (.c (.p (.int .i64) ret18v.2))), (9, [], .v (.c (.p .bool ret25v.1))), (10, [], .v (.c (.p (.int .i64) ret25v.2))), (31, [], .v (.c (.p .bool ret31v)))], []⟩ : St)) (by kernel_rfl) rfl (by kernel_rfl) rfl (by kernel_rfl) Try.call24 (by kernel_rfl) (fun ret31v => by kernel_rfl) (fun e => by cases e) (fun hg => link24 k l w _ h) (fun hg => noF hg) (fun ret31v h => ?_)
  have h : (((!ret31v) = true → K (!decide (ret25v.2 = (0 : Int)))) ∧ ((!ret31v) = false → (InR ((w.length : Int) - (1 : Int)) ∧ Loop (σ := Int × (List Int)) (fun s X => VC7_l1 k l w K ret18v ret25v s.1 s.2 X) (((w.length : Int) - (1 : Int)), ([] : List Int))))) := h
  refine awl_runp 1 [0, 1, 2, 7, 8, 9, 10, 32] [] (ob := (True ∧ True)) (st' := (⟨78, [(0, [], .v (.c (.p (.int .i64) k))), (1, [], .v (.c (.p (.sl (.pr (.int .i64) (.pr (.int .i64) (.int .i64)))) l))), (2, [], .v (.c (.p (.sl (.int .i64)) w))), (7, [], .v (.c (.p (.sl (.pr (.int .i64) (.pr (.int .i64) (.int .i64)))) ret18v.1))), (8, [], .v (.c (.p (.int .i64) ret18v.2))), (9, [], .v (.c (.p .bool ret25v.1))), (10, [], .v (.c (.p (.int .i64) ret25v.2))), (32, [], .v (.c (.p .bool (!ret31v))))], []⟩ : St)) (by kernel_rfl) ⟨trivial, trivial⟩ ?_
  refine awl_nil ?_
  refine thenQ_n ?_
  refine aw_cond (b := (!ret31v)) (by kernel_rfl) (fun hb => ?_) (fun hb => ?_)
  · have h := h.1 hb
    refine aw_seq ?_
    refine aw_region ?_
    refine awl_runp 3 [6] [] (ob := (True ∧ True ∧ True ∧ True)) (st' := (⟨78, [(6, [], .v (.c (.p .bool (!decide (ret25v.2 = (0 : Int))))))], []⟩ : St)) (by kernel_rfl) ⟨trivial, trivial, trivial, trivial⟩ ?_
    refine awl_nil ?_
    refine thenQ_n ?_
    refine aw_ret ?_
    refine thenQ_r ?_
    exact retQ_r (σ := Bool) (R := (fun y => [toV1 .bool y])) (ob := (True ∧ True)) (!decide (ret25v.2 = (0 : Int))) (by kernel_rfl) ⟨trivial, trivial⟩ h
  · have h := h.2 hb
    refine aw_skip ?_
    refine thenQ_n ?_
    refine aw_seq ?_
    refine aw_region ?_
    refine awl_runp 1 [0, 1, 2, 7, 8, 9, 10, 11] [] (ob := (True ∧ True)) (st' := (⟨78, [(0, [], .v (.c (.p (.int .i64) k))), (1, [], .v (.c (.p (.sl (.pr (.int .i64) (.pr (.int .i64) (.int .i64)))) l))), (2, [], .v (.c (.p (.sl (.int .i64)) w))), (7, [], .v (.c (.p (.sl (.pr (.int .i64) (.pr (.int .i64) (.int .i64)))) ret18v.1))), (8, [], .v (.c (.p (.int .i64) ret18v.2))), (9, [], .v (.c (.p .bool ret25v.1))), (10, [], .v (.c (.p (.int .i64) ret25v.2))), (11, [], .v (.c (.nils)))], []⟩ : St)) (by kernel_rfl) ⟨trivial, trivial⟩ ?_
    refine awl_nil ?_
    refine thenQ_n ?_
    refine aw_seq ?_
    refine aw_seq ?_
    refine aw_region ?_
    obtain ⟨o1, h⟩ := h
    refine awl_runp 4 [0, 1, 2, 7, 8, 9, 10, 11, 12] [] (ob := (True ∧ True ∧ InR ((w.length : Int) - (1 : Int)) ∧ True ∧ True)) (st' := (⟨78, [(0, [], .v (.c (.p (.int .i64) k))), (1, [], .v (.c (.p (.sl (.pr (.int .i64) (.pr (.int .i64) (.int .i64)))) l))), (2, [], .v (.c (.p (.sl (.int .i64)) w))), (7, [], .v (.c (.p (.sl (.pr (.int .i64) (.pr (.int .i64) (.int .i64)))) ret18v.1))), (8, [], .v (.c (.p (.int .i64) ret18v.2))), (9, [], .v (.c (.p .bool ret25v.1))), (10, [], .v (.c (.p (.int .i64) ret25v.2))), (11, [], .v (.c (.nils))), (12, [], .v (.c (.p (.int .i64) ((w.length : Int) - (1 : Int)))))], []⟩ : St)) (by kernel_rfl) ⟨trivial, trivial, o1, trivial, trivial⟩ ?_
    refine awl_nil ?_
    refine thenQ_n ?_
    refine withJoin (σ := (List Int)) (fun s => (⟨78, [(0, [], .v (.c (.p (.int .i64) k))), (1, [], .v (.c (.p (.sl (.pr (.int .i64) (.pr (.int .i64) (.int .i64)))) l))), (7, [], .v (.c (.p (.sl (.pr (.int .i64) (.pr (.int .i64) (.int .i64)))) ret18v.1))), (8, [], .v (.c (.p (.int .i64) ret18v.2))), (9, [], .v (.c (.p .bool ret25v.1))), (10, [], .v (.c (.p (.int .i64) ret25v.2))), (11, [], .v (.c (.own 5011)))], [(5011, [], .arr 3 (.int .i64) s)]⟩ : St)) (fun s => VC7_k1 k l K ret18v ret25v s) (fun back h => ?_) (fun rest1 => ?_)
    · have h : VC7_k1 k l K ret18v ret25v back := h
      unfold VC7_k1 at h
      refine thenQ_n ?_
      refine aw_seq ?_
      refine aw_region ?_
      refine awl_runp 3 [1, 7, 8, 9, 10, 50, 51, 52] [5011] (ob := (True ∧ True ∧ True ∧ True)) (st' := (⟨78, [(1, [], .v (.c (.p (.sl (.pr (.int .i64) (.pr (.int .i64) (.int .i64)))) l))), (7, [], .v (.c (.p (.sl (.pr (.int .i64) (.pr (.int .i64) (.int .i64)))) ret18v.1))), (8, [], .v (.c (.p (.int .i64) ret18v.2))), (9, [], .v (.c (.p .bool ret25v.1))), (10, [], .v (.c (.p (.int .i64) ret25v.2))), (50, [], .v (.c (.p (.int .i64) k))), (51, [], .v (.c (.p (.sl (.pr (.int .i64) (.pr (.int .i64) (.int .i64)))) ret18v.1))), (52, [], .v (.c (.own 5011)))], [(5011, [], .arr 3 (.int .i64) back)]⟩ : St)) (by kernel_rfl) ⟨trivial, trivial, trivial, trivial⟩ ?_
      refine awl_callk (p := []) (l := [toV1 (.int .i64) k, toV1 (.sl (.pr (.int .i64) (.pr (.int .i64) (.int .i64)))) ret18v.1, toV1 (.sl (.int .i64)) back]) (cl := []) true [.d (.int .i64), .d (.sl (.pr (.int .i64) (.pr (.int .i64) (.int .i64)))), .d (.sl (.int .i64))] [1, 7, 8, 9, 10, 53] [] (fun (ret53v : Bool × Int) => K (((((decide (ret18v.2 = (0 : Int))) && (decide (ret25v.2 = (0 : Int)))) && (decide (ret53v.2 = (0 : Int)))) && (ret25v.1 == ret53v.1)) && (decide ((ret18v.1.length : Int) = (l.length : Int))))) (fun ret53v => [toV1 .bool ret53v.1, toV1 (.int .i64) ret53v.2]) (fun ret53v => (⟨78, [(1, [], .v (.c (.p (.sl (.pr (.int .i64) (.pr (.int .i64) (.int .i64)))) l))), (7, [], .v (.c (.p (.sl (.pr (.int .i64) (.pr (.int .i64) (.int .i64)))) ret18v.1))), (8, [], .v (.c (.p (.int .i64) ret18v.2))), (9, [], .v (.c (.p .bool ret25v.1))), (10, [], .v (.c (.p (.int .i64) ret25v.2))), (53, [], .tup [.c (.p .bool ret53v.1), .c (.p (.int .i64) ret53v.2)])], []⟩ : St)) (by kernel_rfl) rfl (by kernel_rfl) rfl (by kernel_rfl) Try.call23 (by kernel_rfl) (fun ret53v => by kernel_rfl) (fun _ _ => rfl) (fun hg => link23 k ret18v.1 back _ h) (fun hg => noF hg) (fun ret53v h => ?_)
      have h : K (((((decide (ret18v.2 = (0 : Int))) && (decide (ret25v.2 = (0 : Int)))) && (decide (ret53v.2 = (0 : Int)))) && (ret25v.1 == ret53v.1)) && (decide ((ret18v.1.length : Int) = (l.length : Int)))) := h
      refine awl_runp 5 [1, 7, 8, 9, 10, 13, 14] [] (ob := (True ∧ True ∧ True ∧ True ∧ True ∧ True)) (st' := (⟨78, [(1, [], .v (.c (.p (.sl (.pr (.int .i64) (.pr (.int .i64) (.int .i64)))) l))), (7, [], .v (.c (.p (.sl (.pr (.int .i64) (.pr (.int .i64) (.int .i64)))) ret18v.1))), (8, [], .v (.c (.p (.int .i64) ret18v.2))), (9, [], .v (.c (.p .bool ret25v.1))), (10, [], .v (.c (.p (.int .i64) ret25v.2))), (13, [], .v (.c (.p .bool ret53v.1))), (14, [], .v (.c (.p (.int .i64) ret53v.2)))], []⟩ : St)) (by kernel_rfl) ⟨trivial, trivial, trivial, trivial, trivial, trivial⟩ ?_
      refine awl_nil ?_
      refine thenQ_n ?_
      refine aw_seq ?_
      refine aw_region ?_
      refine awl_runp 23 [6] [] (ob := (True ∧ True ∧ True ∧ ((decide (ret18v.2 = (0 : Int))) = true → True) ∧ ((decide (ret18v.2 = (0 : Int))) = true → True) ∧ True ∧ True ∧ (((decide (ret18v.2 = (0 : Int))) && (decide (ret25v.2 = (0 : Int)))) = true → True) ∧ (((decide (ret18v.2 = (0 : Int))) && (decide (ret25v.2 = (0 : Int)))) = true → True) ∧ True ∧ True ∧ ((((decide (ret18v.2 = (0 : Int))) && (decide (ret25v.2 = (0 : Int)))) && (decide (ret53v.2 = (0 : Int)))) = true → True) ∧ ((((decide (ret18v.2 = (0 : Int))) && (decide (ret25v.2 = (0 : Int)))) && (decide (ret53v.2 = (0 : Int)))) = true → True) ∧ ((((decide (ret18v.2 = (0 : Int))) && (decide (ret25v.2 = (0 : Int)))) && (decide (ret53v.2 = (0 : Int)))) = true → True) ∧ True ∧ True ∧ (((((decide (ret18v.2 = (0 : Int))) && (decide (ret25v.2 = (0 : Int)))) && (decide (ret53v.2 = (0 : Int)))) && (ret25v.1 == ret53v.1)) = true → True) ∧ (((((decide (ret18v.2 = (0 : Int))) && (decide (ret25v.2 = (0 : Int)))) && (decide (ret53v.2 = (0 : Int)))) && (ret25v.1 == ret53v.1)) = true → True) ∧ (((((decide (ret18v.2 = (0 : Int))) && (decide (ret25v.2 = (0 : Int)))) && (decide (ret53v.2 = (0 : Int)))) && (ret25v.1 == ret53v.1)) = true → True) ∧ (((((decide (ret18v.2 = (0 : Int))) && (decide (ret25v.2 = (0 : Int)))) && (decide (ret53v.2 = (0 : Int)))) && (ret25v.1 == ret53v.1)) = true → True) ∧ (((((decide (ret18v.2 = (0 : Int))) && (decide (ret25v.2 = (0 : Int)))) && (decide (ret53v.2 = (0 : Int)))) && (ret25v.1 == ret53v.1)) = true → True) ∧ True ∧ True ∧ True)) (st' := (⟨78, [(6, [], .v (.c (.p .bool (((((decide (ret18v.2 = (0 : Int))) && (decide (ret25v.2 = (0 : Int)))) && (decide (ret53v.2 = (0 : Int)))) && (ret25v.1 == ret53v.1)) && (decide ((ret18v.1.length : Int) = (l.length : Int)))))))], []⟩ : St)) (by kernel_rfl) ⟨trivial, trivial, trivial, (fun _ => trivial), (fun _ => trivial), trivial, trivial, (fun _ => trivial), (fun _ => trivial), trivial, trivial, (fun _ => trivial), (fun _ => trivial), (fun _ => trivial), trivial, trivial, (fun _ => trivial), (fun _ => trivial), (fun _ => trivial), (fun _ => trivial), (fun _ => trivial), trivial, trivial, trivial⟩ ?_
      refine awl_nil ?_
      refine thenQ_n ?_
      refine aw_ret ?_
      exact retQ_r (σ := Bool) (R := (fun y => [toV1 .bool y])) (ob := (True ∧ True)) (((((decide (ret18v.2 = (0 : Int))) && (decide (ret25v.2 = (0 : Int)))) && (decide (ret53v.2 = (0 : Int)))) && (ret25v.1 == ret53v.1)) && (decide ((ret18v.1.length : Int) = (l.length : Int)))) (by kernel_rfl) ⟨trivial, trivial⟩ h
    · refine aw_block ?_
      refine aw_conv [.nilOwn 11 5011 3 (.int .i64), .prune [0, 1, 2, 7, 8, 9, 10, 11, 12] [5011]] (st' := (⟨78, [(0, [], .v (.c (.p (.int .i64) k))), (1, [], .v (.c (.p (.sl (.pr (.int .i64) (.pr (.int .i64) (.int .i64)))) l))), (2, [], .v (.c (.p (.sl (.int .i64)) w))), (7, [], .v (.c (.p (.sl (.pr (.int .i64) (.pr (.int .i64) (.int .i64)))) ret18v.1))), (8, [], .v (.c (.p (.int .i64) ret18v.2))), (9, [], .v (.c (.p .bool ret25v.1))), (10, [], .v (.c (.p (.int .i64) ret25v.2))), (11, [], .v (.c (.own 5011))), (12, [], .v (.c (.p (.int .i64) ((w.length : Int) - (1 : Int)))))], [(5011, [], .arr 3 (.int .i64) ([] : List Int))]⟩ : St)) (by kernel_rfl) ?_
      refine aw_loop (σ := Int × (List Int)) (fun s => (⟨78, [(0, [], .v (.c (.p (.int .i64) k))), (1, [], .v (.c (.p (.sl (.pr (.int .i64) (.pr (.int .i64) (.int .i64)))) l))), (2, [], .v (.c (.p (.sl (.int .i64)) w))), (7, [], .v (.c (.p (.sl (.pr (.int .i64) (.pr (.int .i64) (.int .i64)))) ret18v.1))), (8, [], .v (.c (.p (.int .i64) ret18v.2))), (9, [], .v (.c (.p .bool ret25v.1))), (10, [], .v (.c (.p (.int .i64) ret25v.2))), (11, [], .v (.c (.own 5011))), (12, [], .v (.c (.p (.int .i64) s.1)))], [(5011, [], .arr 3 (.int .i64) s.2)]⟩ : St)) (fun s X => VC7_l1 k l w K ret18v ret25v s.1 s.2 X) (s0 := (((w.length : Int) - (1 : Int)), ([] : List Int))) (fun s X1 h => ?_) h
      obtain ⟨i, back⟩ := s
      have h : VC7_l1 k l w K ret18v ret25v i back X1 := h
      unfold VC7_l1 at h
      refine aw_seq ?_
      refine aw_seq ?_
      refine aw_region ?_
      refine awl_runp 2 [0, 1, 2, 7, 8, 9, 10, 11, 12, 39] [5011] (ob := (True ∧ True ∧ True)) (st' := (⟨78, [(0, [], .v (.c (.p (.int .i64) k))), (1, [], .v (.c (.p (.sl (.pr (.int .i64) (.pr (.int .i64) (.int .i64)))) l))), (2, [], .v (.c (.p (.sl (.int .i64)) w))), (7, [], .v (.c (.p (.sl (.pr (.int .i64) (.pr (.int .i64) (.int .i64)))) ret18v.1))), (8, [], .v (.c (.p (.int .i64) ret18v.2))), (9, [], .v (.c (.p .bool ret25v.1))), (10, [], .v (.c (.p (.int .i64) ret25v.2))), (11, [], .v (.c (.own 5011))), (12, [], .v (.c (.p (.int .i64) i))), (39, [], .v (.c (.p .bool (decide ((0 : Int) ≤ i)))))], [(5011, [], .arr 3 (.int .i64) back)]⟩ : St)) (by kernel_rfl) ⟨trivial, trivial, trivial⟩ ?_
      refine awl_nil ?_
      refine thenQ_n ?_
      refine aw_cond (b := (decide ((0 : Int) ≤ i))) (by kernel_rfl) (fun hb => ?_) (fun hb => ?_)
      · have h := h.1 hb
        refine aw_skip ?_
        refine thenQ_n ?_
        refine aw_seq ?_
        refine aw_block ?_
        refine aw_region ?_
        obtain ⟨o1, o2, h⟩ := h
        refine awl_runp 8 [0, 1, 2, 7, 8, 9, 10, 11, 12] [48] (ob := (True ∧ True ∧ True ∧ inIdx i w.length ∧ True ∧ True ∧ roomN (back.length + [(w.getD (i).toNat (0 : Int))].length) ∧ True ∧ True)) (st' := (⟨78, [(0, [], .v (.c (.p (.int .i64) k))), (1, [], .v (.c (.p (.sl (.pr (.int .i64) (.pr (.int .i64) (.int .i64)))) l))), (2, [], .v (.c (.p (.sl (.int .i64)) w))), (7, [], .v (.c (.p (.sl (.pr (.int .i64) (.pr (.int .i64) (.int .i64)))) ret18v.1))), (8, [], .v (.c (.p (.int .i64) ret18v.2))), (9, [], .v (.c (.p .bool ret25v.1))), (10, [], .v (.c (.p (.int .i64) ret25v.2))), (11, [], .v (.c (.own 48))), (12, [], .v (.c (.p (.int .i64) i)))], [(48, [], .arr 3 (.int .i64) (back ++ [(w.getD (i).toNat (0 : Int))]))]⟩ : St)) (by kernel_rfl) ⟨trivial, trivial, trivial, o1, trivial, trivial, o2, trivial, trivial⟩ ?_
        refine awl_nil ?_
        refine blockQ_n ?_
        refine thenQ_n ?_
        refine aw_region ?_
        obtain ⟨o1, h⟩ := h
        refine awl_runp 3 [0, 1, 2, 7, 8, 9, 10, 11, 12] [48] (ob := (True ∧ InR (i - (1 : Int)) ∧ True ∧ True)) (st' := (⟨78, [(0, [], .v (.c (.p (.int .i64) k))), (1, [], .v (.c (.p (.sl (.pr (.int .i64) (.pr (.int .i64) (.int .i64)))) l))), (2, [], .v (.c (.p (.sl (.int .i64)) w))), (7, [], .v (.c (.p (.sl (.pr (.int .i64) (.pr (.int .i64) (.int .i64)))) ret18v.1))), (8, [], .v (.c (.p (.int .i64) ret18v.2))), (9, [], .v (.c (.p .bool ret25v.1))), (10, [], .v (.c (.p (.int .i64) ret25v.2))), (11, [], .v (.c (.own 48))), (12, [], .v (.c (.p (.int .i64) (i - (1 : Int)))))], [(48, [], .arr 3 (.int .i64) (back ++ [(w.getD (i).toNat (0 : Int))]))]⟩ : St)) (by kernel_rfl) ⟨trivial, o1, trivial, trivial⟩ ?_
        refine awl_conv [.ren 48 20048, .ren 20048 5011] (st' := (⟨78, [(0, [], .v (.c (.p (.int .i64) k))), (1, [], .v (.c (.p (.sl (.pr (.int .i64) (.pr (.int .i64) (.int .i64)))) l))), (2, [], .v (.c (.p (.sl (.int .i64)) w))), (7, [], .v (.c (.p (.sl (.pr (.int .i64) (.pr (.int .i64) (.int .i64)))) ret18v.1))), (8, [], .v (.c (.p (.int .i64) ret18v.2))), (9, [], .v (.c (.p .bool ret25v.1))), (10, [], .v (.c (.p (.int .i64) ret25v.2))), (11, [], .v (.c (.own 5011))), (12, [], .v (.c (.p (.int .i64) (i - (1 : Int)))))], [(5011, [], .arr 3 (.int .i64) (back ++ [(w.getD (i).toNat (0 : Int))]))]⟩ : St)) (by kernel_rfl) ?_
        refine awl_nil ?_
        exact thenQ_n ⟨((i - (1 : Int)), (back ++ [(w.getD (i).toNat (0 : Int))])), rfl, h⟩
      · have h := h.2 hb
        refine aw_conv [.prune [0, 1, 7, 8, 9, 10, 11] [5011]] (st' := (⟨78, [(0, [], .v (.c (.p (.int .i64) k))), (1, [], .v (.c (.p (.sl (.pr (.int .i64) (.pr (.int .i64) (.int .i64)))) l))), (7, [], .v (.c (.p (.sl (.pr (.int .i64) (.pr (.int .i64) (.int .i64)))) ret18v.1))), (8, [], .v (.c (.p (.int .i64) ret18v.2))), (9, [], .v (.c (.p .bool ret25v.1))), (10, [], .v (.c (.p (.int .i64) ret25v.2))), (11, [], .v (.c (.own 5011)))], [(5011, [], .arr 3 (.int .i64) back)]⟩ : St)) (by kernel_rfl) ?_
        refine aw_exit ?_
        refine thenQ_x ?_
        refine thenQ_x ?_
        refine blockQ_hit ?_
        exact rest1 back h

end Dec
