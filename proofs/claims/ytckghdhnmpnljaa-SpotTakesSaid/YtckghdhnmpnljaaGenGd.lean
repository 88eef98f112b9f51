/-
  Printed by dec2.py: of each function its plain demand, and that the demand gives the contract.
-/
import Derived.Test.YtckghdhnmpnljaaGenGc
set_option linter.unusedVariables false
set_option linter.unusedSimpArgs false
set_option maxRecDepth 100000
namespace Dec
open Go Go.RowKit Go.Proofs

-- coppicer/coppicerref.Right
def VC87_k1 (K : Int → Prop) : Prop :=
  K (0 : Int)

def VC87_l1 (k : Int) (l : LN) (K : Int → Prop) (v9 : Int) (X1 : Int → Prop) : Prop :=
  (((decide (v9 < (l.length : Int))) = true → (inIdx v9 l.length ∧ ((((decide ((l.getD (v9).toNat z3).1 < (1 : Int))) || (decide ((6 : Int) < (l.getD (v9).toNat z3).1))) = true → K (6 : Int)) ∧ (((decide ((l.getD (v9).toNat z3).1 < (1 : Int))) || (decide ((6 : Int) < (l.getD (v9).toNat z3).1))) = false → ((((decide ((l.getD (v9).toNat z3).1 = (3 : Int))) && ((decide ((l.getD (v9).toNat z3).2.1 < (0 : Int))) || (decide (k ≤ (l.getD (v9).toNat z3).2.1)))) = true → K (2 : Int)) ∧ (((decide ((l.getD (v9).toNat z3).1 = (3 : Int))) && ((decide ((l.getD (v9).toNat z3).2.1 < (0 : Int))) || (decide (k ≤ (l.getD (v9).toNat z3).2.1)))) = false → ((((decide ((4 : Int) ≤ (l.getD (v9).toNat z3).1)) && ((decide ((l.getD (v9).toNat z3).2.1 < (0 : Int))) || (decide (v9 ≤ (l.getD (v9).toNat z3).2.1)))) = true → K (2 : Int)) ∧ (((decide ((4 : Int) ≤ (l.getD (v9).toNat z3).1)) && ((decide ((l.getD (v9).toNat z3).2.1 < (0 : Int))) || (decide (v9 ≤ (l.getD (v9).toNat z3).2.1)))) = false → (((((decide ((l.getD (v9).toNat z3).1 = (4 : Int))) || (decide ((l.getD (v9).toNat z3).1 = (5 : Int)))) && ((decide ((l.getD (v9).toNat z3).2.2 < (0 : Int))) || (decide (v9 ≤ (l.getD (v9).toNat z3).2.2)))) = true → K (2 : Int)) ∧ ((((decide ((l.getD (v9).toNat z3).1 = (4 : Int))) || (decide ((l.getD (v9).toNat z3).1 = (5 : Int)))) && ((decide ((l.getD (v9).toNat z3).2.2 < (0 : Int))) || (decide (v9 ≤ (l.getD (v9).toNat z3).2.2)))) = false → (InR (v9 + (1 : Int)) ∧ X1 (v9 + (1 : Int))))))))))))) ∧ ((decide (v9 < (l.length : Int))) = false → VC87_k1 K))

def VC87 (k : Int) (l : LN) (K : Int → Prop) : Prop :=
  Loop (σ := Int) (fun s X => VC87_l1 k l K s X) (0 : Int)

set_option maxHeartbeats 4000000 in
theorem link87 (k : Int) (l : LN) (K : Int → Prop) (h : VC87 k l K) : ACalls Try.prog 87 [toV1 (.int .i64) k, toV1 (.sl t3) l] (fun res => ∃ y, res = (fun y => [toV1 (.int .i64) y]) y ∧ K y) := by
  refine acalls_of_aw [(.int .i64)] [.t 4] Try.func87 rfl rfl rfl ?_
  unfold VC87 at h
  refine aw_seq ?_
  refine aw_region ?_
  refine awl_runp 1 [0, 1] [] (ob := (True ∧ True)) (st' := (⟨70, [(0, [], .v (.c (.pI k))), (1, [], .v (.c (.p (.sl t3) l)))], []⟩ : St)) (by kernel_rfl) ⟨trivial, trivial⟩ ?_
  refine awl_nil ?_
  refine thenQ_n ?_
  refine aw_seq ?_
  refine aw_seq ?_
  refine aw_region ?_
  refine awl_runp 3 [0, 7, 8, 9] [] (ob := (True ∧ True ∧ True ∧ True)) (st' := (⟨70, [(0, [], .v (.c (.pI k))), (7, [], .v (.c (.p (.sl t3) l))), (8, [], .v (.c (.pI (l.length : Int)))), (9, [], .v (.c (.pI (0 : Int))))], []⟩ : St)) (by kernel_rfl) ⟨trivial, trivial, trivial, trivial⟩ ?_
  refine awl_nil ?_
  refine thenQ_n ?_
  refine withJoin (σ := Unit) (fun s => (⟨70, [], []⟩ : St)) (fun s => VC87_k1 K) (fun s h => ?_) (fun rest1 => ?_)
  · have h : VC87_k1 K := h
    unfold VC87_k1 at h
    refine thenQ_n ?_
    refine aw_seq ?_
    refine aw_region ?_
    refine awl_runp 1 [4] [] (ob := (True ∧ True)) (st' := (⟨70, [(4, [], .v (.c (.pI (0 : Int))))], []⟩ : St)) (by kernel_rfl) ⟨trivial, trivial⟩ ?_
    refine awl_nil ?_
    refine thenQ_n ?_
    refine aw_ret ?_
    exact retQ_r (σ := Int) (R := (fun y => [toV1 (.int .i64) y])) (ob := (True ∧ True)) (0 : Int) (by kernel_rfl) ⟨trivial, trivial⟩ h
  · refine aw_block ?_
    refine aw_loop (σ := Int) (fun s => (⟨70, [(0, [], .v (.c (.pI k))), (7, [], .v (.c (.p (.sl t3) l))), (8, [], .v (.c (.pI (l.length : Int)))), (9, [], .v (.c (.pI s)))], []⟩ : St)) (fun s X => VC87_l1 k l K s X) (s0 := (0 : Int)) (fun v9 X1 h => ?_) h
    have h : VC87_l1 k l K v9 X1 := h
    unfold VC87_l1 at h
    refine aw_seq ?_
    refine aw_region ?_
    refine awl_runp 1 [0, 7, 8, 9, 10] [] (ob := (True ∧ True)) (st' := (⟨70, [(0, [], .v (.c (.pI k))), (7, [], .v (.c (.p (.sl t3) l))), (8, [], .v (.c (.pI (l.length : Int)))), (9, [], .v (.c (.pI v9))), (10, [], .v (.c (.pB (decide (v9 < (l.length : Int))))))], []⟩ : St)) (by kernel_rfl) ⟨trivial, trivial⟩ ?_
    refine awl_nil ?_
    refine thenQ_n ?_
    refine aw_seq ?_
    refine aw_cond (b := (decide (v9 < (l.length : Int)))) (by kernel_rfl) (fun hb => ?_) (fun hb => ?_)
    · have h := h.1 hb
      refine aw_skip ?_
      refine thenQ_n ?_
      refine aw_seq ?_
      refine aw_block ?_
      refine aw_seq ?_
      refine aw_region ?_
      obtain ⟨o1, h⟩ := h
      refine awl_runp 6 [0, 5, 6, 7, 8, 9] [6] (ob := (True ∧ inIdx v9 l.length ∧ True ∧ True ∧ True ∧ True ∧ True)) (st' := (⟨70, [(0, [], .v (.c (.pI k))), (5, [], .v (.c (.pI v9))), (6, [], .v (.c (.ptr 6 0))), (7, [], .v (.c (.p (.sl t3) l))), (8, [], .v (.c (.pI (l.length : Int)))), (9, [], .v (.c (.pI v9)))], [(6, [], .box [.pI ((l.getD (v9).toNat z3).1), .pI ((l.getD (v9).toNat z3).2.1), .pI ((l.getD (v9).toNat z3).2.2)])]⟩ : St)) (by kernel_rfl) ⟨trivial, o1, trivial, trivial, trivial, trivial, trivial⟩ ?_
      refine awl_nil ?_
      refine thenQ_n ?_
      refine aw_seq ?_
      refine aw_seq ?_
      refine aw_region ?_
      refine awl_runp 8 [0, 5, 6, 7, 8, 9, 21] [6] (ob := (True ∧ True ∧ True ∧ True ∧ ((decide ((l.getD (v9).toNat z3).1 < (1 : Int))) = false → True) ∧ ((decide ((l.getD (v9).toNat z3).1 < (1 : Int))) = false → True) ∧ ((decide ((l.getD (v9).toNat z3).1 < (1 : Int))) = false → True) ∧ True ∧ True)) (st' := (⟨70, [(0, [], .v (.c (.pI k))), (5, [], .v (.c (.pI v9))), (6, [], .v (.c (.ptr 6 0))), (7, [], .v (.c (.p (.sl t3) l))), (8, [], .v (.c (.pI (l.length : Int)))), (9, [], .v (.c (.pI v9))), (21, [], .v (.c (.pB ((decide ((l.getD (v9).toNat z3).1 < (1 : Int))) || (decide ((6 : Int) < (l.getD (v9).toNat z3).1))))))], [(6, [], .box [.pI ((l.getD (v9).toNat z3).1), .pI ((l.getD (v9).toNat z3).2.1), .pI ((l.getD (v9).toNat z3).2.2)])]⟩ : St)) (by kernel_rfl) ⟨trivial, trivial, trivial, trivial, (fun _ => trivial), (fun _ => trivial), (fun _ => trivial), trivial, trivial⟩ ?_
      refine awl_nil ?_
      refine thenQ_n ?_
      refine aw_cond (b := ((decide ((l.getD (v9).toNat z3).1 < (1 : Int))) || (decide ((6 : Int) < (l.getD (v9).toNat z3).1)))) (by kernel_rfl) (fun hb => ?_) (fun hb => ?_)
      · have h := h.1 hb
        refine aw_seq ?_
        refine aw_region ?_
        refine awl_runp 1 [4] [] (ob := (True ∧ True)) (st' := (⟨70, [(4, [], .v (.c (.pI (6 : Int))))], []⟩ : St)) (by kernel_rfl) ⟨trivial, trivial⟩ ?_
        refine awl_nil ?_
        refine thenQ_n ?_
        refine aw_ret ?_
        refine thenQ_r ?_
        refine blockQ_r ?_
        refine thenQ_r ?_
        refine thenQ_r ?_
        refine blockQ_r ?_
        refine thenQ_r ?_
        exact retQ_r (σ := Int) (R := (fun y => [toV1 (.int .i64) y])) (ob := (True ∧ True)) (6 : Int) (by kernel_rfl) ⟨trivial, trivial⟩ h
      · have h := h.2 hb
        refine aw_skip ?_
        refine thenQ_n ?_
        refine aw_seq ?_
        refine aw_seq ?_
        refine aw_region ?_
        refine awl_runp 14 [0, 5, 6, 7, 8, 9, 35] [6] (ob := (True ∧ True ∧ True ∧ True ∧ ((decide ((l.getD (v9).toNat z3).1 = (3 : Int))) = true → True) ∧ ((decide ((l.getD (v9).toNat z3).1 = (3 : Int))) = true → True) ∧ ((decide ((l.getD (v9).toNat z3).1 = (3 : Int))) = true → True) ∧ ((decide ((l.getD (v9).toNat z3).1 = (3 : Int))) = true → True) ∧ ((decide ((l.getD (v9).toNat z3).1 = (3 : Int))) = true → ((decide ((l.getD (v9).toNat z3).2.1 < (0 : Int))) = false → True)) ∧ ((decide ((l.getD (v9).toNat z3).1 = (3 : Int))) = true → ((decide ((l.getD (v9).toNat z3).2.1 < (0 : Int))) = false → True)) ∧ ((decide ((l.getD (v9).toNat z3).1 = (3 : Int))) = true → ((decide ((l.getD (v9).toNat z3).2.1 < (0 : Int))) = false → True)) ∧ ((decide ((l.getD (v9).toNat z3).1 = (3 : Int))) = true → ((decide ((l.getD (v9).toNat z3).2.1 < (0 : Int))) = false → True)) ∧ ((decide ((l.getD (v9).toNat z3).1 = (3 : Int))) = true → True) ∧ True ∧ True)) (st' := (⟨70, [(0, [], .v (.c (.pI k))), (5, [], .v (.c (.pI v9))), (6, [], .v (.c (.ptr 6 0))), (7, [], .v (.c (.p (.sl t3) l))), (8, [], .v (.c (.pI (l.length : Int)))), (9, [], .v (.c (.pI v9))), (35, [], .v (.c (.pB ((decide ((l.getD (v9).toNat z3).1 = (3 : Int))) && ((decide ((l.getD (v9).toNat z3).2.1 < (0 : Int))) || (decide (k ≤ (l.getD (v9).toNat z3).2.1)))))))], [(6, [], .box [.pI ((l.getD (v9).toNat z3).1), .pI ((l.getD (v9).toNat z3).2.1), .pI ((l.getD (v9).toNat z3).2.2)])]⟩ : St)) (by kernel_rfl) ⟨trivial, trivial, trivial, trivial, (fun _ => trivial), (fun _ => trivial), (fun _ => trivial), (fun _ => trivial), (fun _ _ => trivial), (fun _ _ => trivial), (fun _ _ => trivial), (fun _ _ => trivial), (fun _ => trivial), trivial, trivial⟩ ?_
        refine awl_nil ?_
        refine thenQ_n ?_
        refine aw_cond (b := ((decide ((l.getD (v9).toNat z3).1 = (3 : Int))) && ((decide ((l.getD (v9).toNat z3).2.1 < (0 : Int))) || (decide (k ≤ (l.getD (v9).toNat z3).2.1))))) (by kernel_rfl) (fun hb => ?_) (fun hb => ?_)
        · have h := h.1 hb
          refine aw_seq ?_
          refine aw_region ?_
          refine awl_runp 1 [4] [] (ob := (True ∧ True)) (st' := (⟨70, [(4, [], .v (.c (.pI (2 : Int))))], []⟩ : St)) (by kernel_rfl) ⟨trivial, trivial⟩ ?_
          refine awl_nil ?_
          refine thenQ_n ?_
          refine aw_ret ?_
          refine thenQ_r ?_
          refine blockQ_r ?_
          refine thenQ_r ?_
          refine thenQ_r ?_
          refine blockQ_r ?_
          refine thenQ_r ?_
          exact retQ_r (σ := Int) (R := (fun y => [toV1 (.int .i64) y])) (ob := (True ∧ True)) (2 : Int) (by kernel_rfl) ⟨trivial, trivial⟩ h
        · have h := h.2 hb
          refine aw_skip ?_
          refine thenQ_n ?_
          refine aw_seq ?_
          refine aw_seq ?_
          refine aw_region ?_
          refine awl_runp 14 [0, 5, 6, 7, 8, 9, 49] [6] (ob := (True ∧ True ∧ True ∧ True ∧ ((decide ((4 : Int) ≤ (l.getD (v9).toNat z3).1)) = true → True) ∧ ((decide ((4 : Int) ≤ (l.getD (v9).toNat z3).1)) = true → True) ∧ ((decide ((4 : Int) ≤ (l.getD (v9).toNat z3).1)) = true → True) ∧ ((decide ((4 : Int) ≤ (l.getD (v9).toNat z3).1)) = true → True) ∧ ((decide ((4 : Int) ≤ (l.getD (v9).toNat z3).1)) = true → ((decide ((l.getD (v9).toNat z3).2.1 < (0 : Int))) = false → True)) ∧ ((decide ((4 : Int) ≤ (l.getD (v9).toNat z3).1)) = true → ((decide ((l.getD (v9).toNat z3).2.1 < (0 : Int))) = false → True)) ∧ ((decide ((4 : Int) ≤ (l.getD (v9).toNat z3).1)) = true → ((decide ((l.getD (v9).toNat z3).2.1 < (0 : Int))) = false → True)) ∧ ((decide ((4 : Int) ≤ (l.getD (v9).toNat z3).1)) = true → ((decide ((l.getD (v9).toNat z3).2.1 < (0 : Int))) = false → True)) ∧ ((decide ((4 : Int) ≤ (l.getD (v9).toNat z3).1)) = true → True) ∧ True ∧ True)) (st' := (⟨70, [(0, [], .v (.c (.pI k))), (5, [], .v (.c (.pI v9))), (6, [], .v (.c (.ptr 6 0))), (7, [], .v (.c (.p (.sl t3) l))), (8, [], .v (.c (.pI (l.length : Int)))), (9, [], .v (.c (.pI v9))), (49, [], .v (.c (.pB ((decide ((4 : Int) ≤ (l.getD (v9).toNat z3).1)) && ((decide ((l.getD (v9).toNat z3).2.1 < (0 : Int))) || (decide (v9 ≤ (l.getD (v9).toNat z3).2.1)))))))], [(6, [], .box [.pI ((l.getD (v9).toNat z3).1), .pI ((l.getD (v9).toNat z3).2.1), .pI ((l.getD (v9).toNat z3).2.2)])]⟩ : St)) (by kernel_rfl) ⟨trivial, trivial, trivial, trivial, (fun _ => trivial), (fun _ => trivial), (fun _ => trivial), (fun _ => trivial), (fun _ _ => trivial), (fun _ _ => trivial), (fun _ _ => trivial), (fun _ _ => trivial), (fun _ => trivial), trivial, trivial⟩ ?_
          refine awl_nil ?_
          refine thenQ_n ?_
          refine aw_cond (b := ((decide ((4 : Int) ≤ (l.getD (v9).toNat z3).1)) && ((decide ((l.getD (v9).toNat z3).2.1 < (0 : Int))) || (decide (v9 ≤ (l.getD (v9).toNat z3).2.1))))) (by kernel_rfl) (fun hb => ?_) (fun hb => ?_)
          · have h := h.1 hb
            refine aw_seq ?_
            refine aw_region ?_
            refine awl_runp 1 [4] [] (ob := (True ∧ True)) (st' := (⟨70, [(4, [], .v (.c (.pI (2 : Int))))], []⟩ : St)) (by kernel_rfl) ⟨trivial, trivial⟩ ?_
            refine awl_nil ?_
            refine thenQ_n ?_
            refine aw_ret ?_
            refine thenQ_r ?_
            refine blockQ_r ?_
            refine thenQ_r ?_
            refine thenQ_r ?_
            refine blockQ_r ?_
            refine thenQ_r ?_
            exact retQ_r (σ := Int) (R := (fun y => [toV1 (.int .i64) y])) (ob := (True ∧ True)) (2 : Int) (by kernel_rfl) ⟨trivial, trivial⟩ h
          · have h := h.2 hb
            refine aw_skip ?_
            refine thenQ_n ?_
            refine aw_seq ?_
            refine aw_region ?_
            refine awl_runp 19 [0, 7, 8, 9, 68] [] (ob := (True ∧ True ∧ True ∧ True ∧ ((decide ((l.getD (v9).toNat z3).1 = (4 : Int))) = false → True) ∧ ((decide ((l.getD (v9).toNat z3).1 = (4 : Int))) = false → True) ∧ ((decide ((l.getD (v9).toNat z3).1 = (4 : Int))) = false → True) ∧ True ∧ True ∧ (((decide ((l.getD (v9).toNat z3).1 = (4 : Int))) || (decide ((l.getD (v9).toNat z3).1 = (5 : Int)))) = true → True) ∧ (((decide ((l.getD (v9).toNat z3).1 = (4 : Int))) || (decide ((l.getD (v9).toNat z3).1 = (5 : Int)))) = true → True) ∧ (((decide ((l.getD (v9).toNat z3).1 = (4 : Int))) || (decide ((l.getD (v9).toNat z3).1 = (5 : Int)))) = true → True) ∧ (((decide ((l.getD (v9).toNat z3).1 = (4 : Int))) || (decide ((l.getD (v9).toNat z3).1 = (5 : Int)))) = true → True) ∧ (((decide ((l.getD (v9).toNat z3).1 = (4 : Int))) || (decide ((l.getD (v9).toNat z3).1 = (5 : Int)))) = true → ((decide ((l.getD (v9).toNat z3).2.2 < (0 : Int))) = false → True)) ∧ (((decide ((l.getD (v9).toNat z3).1 = (4 : Int))) || (decide ((l.getD (v9).toNat z3).1 = (5 : Int)))) = true → ((decide ((l.getD (v9).toNat z3).2.2 < (0 : Int))) = false → True)) ∧ (((decide ((l.getD (v9).toNat z3).1 = (4 : Int))) || (decide ((l.getD (v9).toNat z3).1 = (5 : Int)))) = true → ((decide ((l.getD (v9).toNat z3).2.2 < (0 : Int))) = false → True)) ∧ (((decide ((l.getD (v9).toNat z3).1 = (4 : Int))) || (decide ((l.getD (v9).toNat z3).1 = (5 : Int)))) = true → ((decide ((l.getD (v9).toNat z3).2.2 < (0 : Int))) = false → True)) ∧ (((decide ((l.getD (v9).toNat z3).1 = (4 : Int))) || (decide ((l.getD (v9).toNat z3).1 = (5 : Int)))) = true → True) ∧ True ∧ True)) (st' := (⟨70, [(0, [], .v (.c (.pI k))), (7, [], .v (.c (.p (.sl t3) l))), (8, [], .v (.c (.pI (l.length : Int)))), (9, [], .v (.c (.pI v9))), (68, [], .v (.c (.pB (((decide ((l.getD (v9).toNat z3).1 = (4 : Int))) || (decide ((l.getD (v9).toNat z3).1 = (5 : Int)))) && ((decide ((l.getD (v9).toNat z3).2.2 < (0 : Int))) || (decide (v9 ≤ (l.getD (v9).toNat z3).2.2)))))))], []⟩ : St)) (by kernel_rfl) ⟨trivial, trivial, trivial, trivial, (fun _ => trivial), (fun _ => trivial), (fun _ => trivial), trivial, trivial, (fun _ => trivial), (fun _ => trivial), (fun _ => trivial), (fun _ => trivial), (fun _ _ => trivial), (fun _ _ => trivial), (fun _ _ => trivial), (fun _ _ => trivial), (fun _ => trivial), trivial, trivial⟩ ?_
            refine awl_nil ?_
            refine thenQ_n ?_
            refine aw_cond (b := (((decide ((l.getD (v9).toNat z3).1 = (4 : Int))) || (decide ((l.getD (v9).toNat z3).1 = (5 : Int)))) && ((decide ((l.getD (v9).toNat z3).2.2 < (0 : Int))) || (decide (v9 ≤ (l.getD (v9).toNat z3).2.2))))) (by kernel_rfl) (fun hb => ?_) (fun hb => ?_)
            · have h := h.1 hb
              refine aw_seq ?_
              refine aw_region ?_
              refine awl_runp 1 [4] [] (ob := (True ∧ True)) (st' := (⟨70, [(4, [], .v (.c (.pI (2 : Int))))], []⟩ : St)) (by kernel_rfl) ⟨trivial, trivial⟩ ?_
              refine awl_nil ?_
              refine thenQ_n ?_
              refine aw_ret ?_
              refine blockQ_r ?_
              refine thenQ_r ?_
              refine thenQ_r ?_
              refine blockQ_r ?_
              refine thenQ_r ?_
              exact retQ_r (σ := Int) (R := (fun y => [toV1 (.int .i64) y])) (ob := (True ∧ True)) (2 : Int) (by kernel_rfl) ⟨trivial, trivial⟩ h
            · have h := h.2 hb
              refine aw_skip ?_
              refine blockQ_n ?_
              refine thenQ_n ?_
              refine aw_region ?_
              obtain ⟨o1, h⟩ := h
              refine awl_runp 2 [0, 7, 8, 9] [] (ob := (InR (v9 + (1 : Int)) ∧ True ∧ True)) (st' := (⟨70, [(0, [], .v (.c (.pI k))), (7, [], .v (.c (.p (.sl t3) l))), (8, [], .v (.c (.pI (l.length : Int)))), (9, [], .v (.c (.pI (v9 + (1 : Int)))))], []⟩ : St)) (by kernel_rfl) ⟨o1, trivial, trivial⟩ ?_
              refine awl_nil ?_
              exact thenQ_n ⟨(v9 + (1 : Int)), rfl, h⟩
    · have h := h.2 hb
      refine aw_conv [.prune [] []] (st' := (⟨70, [], []⟩ : St)) (by kernel_rfl) ?_
      refine aw_exit ?_
      refine thenQ_x ?_
      refine thenQ_x ?_
      refine blockQ_hit ?_
      exact rest1 () h

-- coppicer/coppicerref.SentenceCheck
def VC47 (k : Int) (l : LN) (K : Int → Prop) : Prop :=
  ((((((decide (k < (1 : Int))) || (decide ((3 : Int) < k))) || (decide ((l.length : Int) = (0 : Int)))) || (decide ((9 : Int) < (l.length : Int)))) = true → K (1 : Int)) ∧ (((((decide (k < (1 : Int))) || (decide ((3 : Int) < k))) || (decide ((l.length : Int) = (0 : Int)))) || (decide ((9 : Int) < (l.length : Int)))) = false → VC87 k l (fun (ret23v : Int) => K ret23v)))

set_option maxHeartbeats 4000000 in
theorem link47 (k : Int) (l : LN) (K : Int → Prop) (h : VC47 k l K) : ACalls Try.prog 47 [toV1 (.int .i64) k, toV1 (.sl t3) l] (fun res => ∃ y, res = (fun y => [toV1 (.int .i64) y]) y ∧ K y) := by
  refine acalls_of_aw [(.int .i64)] [.t 4] Try.func47 rfl rfl rfl ?_
  unfold VC47 at h
  refine aw_seq ?_
  refine aw_region ?_
  refine awl_runp 1 [0, 1] [] (ob := (True ∧ True)) (st' := (⟨24, [(0, [], .v (.c (.pI k))), (1, [], .v (.c (.p (.sl t3) l)))], []⟩ : St)) (by kernel_rfl) ⟨trivial, trivial⟩ ?_
  refine awl_nil ?_
  refine thenQ_n ?_
  refine aw_seq ?_
  refine aw_seq ?_
  refine aw_region ?_
  refine awl_runp 16 [0, 1, 20] [] (ob := (True ∧ True ∧ True ∧ ((decide (k < (1 : Int))) = false → True) ∧ ((decide (k < (1 : Int))) = false → True) ∧ True ∧ True ∧ (((decide (k < (1 : Int))) || (decide ((3 : Int) < k))) = false → True) ∧ (((decide (k < (1 : Int))) || (decide ((3 : Int) < k))) = false → True) ∧ (((decide (k < (1 : Int))) || (decide ((3 : Int) < k))) = false → True) ∧ True ∧ True ∧ ((((decide (k < (1 : Int))) || (decide ((3 : Int) < k))) || (decide ((l.length : Int) = (0 : Int)))) = false → True) ∧ ((((decide (k < (1 : Int))) || (decide ((3 : Int) < k))) || (decide ((l.length : Int) = (0 : Int)))) = false → True) ∧ ((((decide (k < (1 : Int))) || (decide ((3 : Int) < k))) || (decide ((l.length : Int) = (0 : Int)))) = false → True) ∧ True ∧ True)) (st' := (⟨24, [(0, [], .v (.c (.pI k))), (1, [], .v (.c (.p (.sl t3) l))), (20, [], .v (.c (.pB ((((decide (k < (1 : Int))) || (decide ((3 : Int) < k))) || (decide ((l.length : Int) = (0 : Int)))) || (decide ((9 : Int) < (l.length : Int)))))))], []⟩ : St)) (by kernel_rfl) ⟨trivial, trivial, trivial, (fun _ => trivial), (fun _ => trivial), trivial, trivial, (fun _ => trivial), (fun _ => trivial), (fun _ => trivial), trivial, trivial, (fun _ => trivial), (fun _ => trivial), (fun _ => trivial), trivial, trivial⟩ ?_
  refine awl_nil ?_
  refine thenQ_n ?_
  refine aw_cond (b := ((((decide (k < (1 : Int))) || (decide ((3 : Int) < k))) || (decide ((l.length : Int) = (0 : Int)))) || (decide ((9 : Int) < (l.length : Int))))) (by kernel_rfl) (fun hb => ?_) (fun hb => ?_)
  · have h := h.1 hb
    refine aw_seq ?_
    refine aw_region ?_
    refine awl_runp 1 [4] [] (ob := (True ∧ True)) (st' := (⟨24, [(4, [], .v (.c (.pI (1 : Int))))], []⟩ : St)) (by kernel_rfl) ⟨trivial, trivial⟩ ?_
    refine awl_nil ?_
    refine thenQ_n ?_
    refine aw_ret ?_
    refine thenQ_r ?_
    exact retQ_r (σ := Int) (R := (fun y => [toV1 (.int .i64) y])) (ob := (True ∧ True)) (1 : Int) (by kernel_rfl) ⟨trivial, trivial⟩ h
  · have h := h.2 hb
    refine aw_skip ?_
    refine thenQ_n ?_
    refine aw_seq ?_
    refine aw_region ?_
    refine awl_runp 2 [21, 22] [] (ob := (True ∧ True ∧ True)) (st' := (⟨24, [(21, [], .v (.c (.pI k))), (22, [], .v (.c (.p (.sl t3) l)))], []⟩ : St)) (by kernel_rfl) ⟨trivial, trivial, trivial⟩ ?_
    refine awl_callk (p := []) (l := [toV1 (.int .i64) k, toV1 (.sl t3) l]) (cl := []) false [.d (.int .i64), .d (.sl t3)] [23] [] (fun (ret23v : Int) => K ret23v) (fun ret23v => [toV1 (.int .i64) ret23v]) (fun ret23v => (⟨24, [(23, [], .v (.c (.pI ret23v)))], []⟩ : St)) (by kernel_rfl) rfl (by kernel_rfl) rfl (by kernel_rfl) Try.call87 (by kernel_rfl) (fun ret23v => by kernel_rfl) (fun e => by cases e) (fun hg => link87 k l _ h) (fun hg => noF hg) (fun ret23v h => ?_)
    have h : K ret23v := h
    refine awl_runp 1 [4] [] (ob := (True ∧ True)) (st' := (⟨24, [(4, [], .v (.c (.pI ret23v)))], []⟩ : St)) (by kernel_rfl) ⟨trivial, trivial⟩ ?_
    refine awl_nil ?_
    refine thenQ_n ?_
    refine aw_ret ?_
    exact retQ_r (σ := Int) (R := (fun y => [toV1 (.int .i64) y])) (ob := (True ∧ True)) ret23v (by kernel_rfl) ⟨trivial, trivial⟩ h

-- coppicer/coppicerref.WordCheck
def VC16_k1 (K : Int → Prop) : Prop :=
  K (0 : Int)

def VC16_l1 (k : Int) (w : LI) (K : Int → Prop) (v12 : Int) (X1 : Int → Prop) : Prop :=
  (((decide (v12 < (w.length : Int))) = true → (inIdx v12 w.length ∧ ((((decide ((w.getD (v12).toNat (0 : Int)) < (0 : Int))) || (decide (k ≤ (w.getD (v12).toNat (0 : Int))))) = true → K (2 : Int)) ∧ (((decide ((w.getD (v12).toNat (0 : Int)) < (0 : Int))) || (decide (k ≤ (w.getD (v12).toNat (0 : Int))))) = false → (InR (v12 + (1 : Int)) ∧ X1 (v12 + (1 : Int))))))) ∧ ((decide (v12 < (w.length : Int))) = false → VC16_k1 K))

def VC16 (k : Int) (w : LI) (K : Int → Prop) : Prop :=
  (((decide ((12 : Int) < (w.length : Int))) = true → K (1 : Int)) ∧ ((decide ((12 : Int) < (w.length : Int))) = false → Loop (σ := Int) (fun s X => VC16_l1 k w K s X) (0 : Int)))

set_option maxHeartbeats 4000000 in
theorem link16 (k : Int) (w : LI) (K : Int → Prop) (h : VC16 k w K) : ACalls Try.prog 16 [toV1 (.int .i64) k, toV1 (.sl (.int .i64)) w] (fun res => ∃ y, res = (fun y => [toV1 (.int .i64) y]) y ∧ K y) := by
  refine acalls_of_aw [(.int .i64)] [.t 4] Try.func16 rfl rfl rfl ?_
  unfold VC16 at h
  refine aw_seq ?_
  refine aw_region ?_
  refine awl_runp 1 [0, 1] [] (ob := (True ∧ True)) (st' := (⟨24, [(0, [], .v (.c (.pI k))), (1, [], .v (.c (.pS w)))], []⟩ : St)) (by kernel_rfl) ⟨trivial, trivial⟩ ?_
  refine awl_nil ?_
  refine thenQ_n ?_
  refine aw_seq ?_
  refine aw_seq ?_
  refine aw_region ?_
  refine awl_runp 3 [0, 1, 9] [] (ob := (True ∧ True ∧ True ∧ True)) (st' := (⟨24, [(0, [], .v (.c (.pI k))), (1, [], .v (.c (.pS w))), (9, [], .v (.c (.pB (decide ((12 : Int) < (w.length : Int))))))], []⟩ : St)) (by kernel_rfl) ⟨trivial, trivial, trivial, trivial⟩ ?_
  refine awl_nil ?_
  refine thenQ_n ?_
  refine aw_cond (b := (decide ((12 : Int) < (w.length : Int)))) (by kernel_rfl) (fun hb => ?_) (fun hb => ?_)
  · have h := h.1 hb
    refine aw_seq ?_
    refine aw_region ?_
    refine awl_runp 1 [4] [] (ob := (True ∧ True)) (st' := (⟨24, [(4, [], .v (.c (.pI (1 : Int))))], []⟩ : St)) (by kernel_rfl) ⟨trivial, trivial⟩ ?_
    refine awl_nil ?_
    refine thenQ_n ?_
    refine aw_ret ?_
    refine thenQ_r ?_
    exact retQ_r (σ := Int) (R := (fun y => [toV1 (.int .i64) y])) (ob := (True ∧ True)) (1 : Int) (by kernel_rfl) ⟨trivial, trivial⟩ h
  · have h := h.2 hb
    refine aw_skip ?_
    refine thenQ_n ?_
    refine aw_seq ?_
    refine aw_seq ?_
    refine aw_region ?_
    refine awl_runp 3 [0, 10, 11, 12] [] (ob := (True ∧ True ∧ True ∧ True)) (st' := (⟨24, [(0, [], .v (.c (.pI k))), (10, [], .v (.c (.pS w))), (11, [], .v (.c (.pI (w.length : Int)))), (12, [], .v (.c (.pI (0 : Int))))], []⟩ : St)) (by kernel_rfl) ⟨trivial, trivial, trivial, trivial⟩ ?_
    refine awl_nil ?_
    refine thenQ_n ?_
    refine withJoin (σ := Unit) (fun s => (⟨24, [], []⟩ : St)) (fun s => VC16_k1 K) (fun s h => ?_) (fun rest1 => ?_)
    · have h : VC16_k1 K := h
      unfold VC16_k1 at h
      refine thenQ_n ?_
      refine aw_seq ?_
      refine aw_region ?_
      refine awl_runp 1 [4] [] (ob := (True ∧ True)) (st' := (⟨24, [(4, [], .v (.c (.pI (0 : Int))))], []⟩ : St)) (by kernel_rfl) ⟨trivial, trivial⟩ ?_
      refine awl_nil ?_
      refine thenQ_n ?_
      refine aw_ret ?_
      exact retQ_r (σ := Int) (R := (fun y => [toV1 (.int .i64) y])) (ob := (True ∧ True)) (0 : Int) (by kernel_rfl) ⟨trivial, trivial⟩ h
    · refine aw_block ?_
      refine aw_loop (σ := Int) (fun s => (⟨24, [(0, [], .v (.c (.pI k))), (10, [], .v (.c (.pS w))), (11, [], .v (.c (.pI (w.length : Int)))), (12, [], .v (.c (.pI s)))], []⟩ : St)) (fun s X => VC16_l1 k w K s X) (s0 := (0 : Int)) (fun v12 X1 h => ?_) h
      have h : VC16_l1 k w K v12 X1 := h
      unfold VC16_l1 at h
      refine aw_seq ?_
      refine aw_region ?_
      refine awl_runp 1 [0, 10, 11, 12, 13] [] (ob := (True ∧ True)) (st' := (⟨24, [(0, [], .v (.c (.pI k))), (10, [], .v (.c (.pS w))), (11, [], .v (.c (.pI (w.length : Int)))), (12, [], .v (.c (.pI v12))), (13, [], .v (.c (.pB (decide (v12 < (w.length : Int))))))], []⟩ : St)) (by kernel_rfl) ⟨trivial, trivial⟩ ?_
      refine awl_nil ?_
      refine thenQ_n ?_
      refine aw_seq ?_
      refine aw_cond (b := (decide (v12 < (w.length : Int)))) (by kernel_rfl) (fun hb => ?_) (fun hb => ?_)
      · have h := h.1 hb
        refine aw_skip ?_
        refine thenQ_n ?_
        refine aw_seq ?_
        refine aw_block ?_
        refine aw_seq ?_
        refine aw_region ?_
        obtain ⟨o1, h⟩ := h
        refine awl_runp 3 [0, 6, 10, 11, 12] [] (ob := (inIdx v12 w.length ∧ True ∧ True ∧ True)) (st' := (⟨24, [(0, [], .v (.c (.pI k))), (6, [], .v (.c (.pI (w.getD (v12).toNat (0 : Int))))), (10, [], .v (.c (.pS w))), (11, [], .v (.c (.pI (w.length : Int)))), (12, [], .v (.c (.pI v12)))], []⟩ : St)) (by kernel_rfl) ⟨o1, trivial, trivial, trivial⟩ ?_
        refine awl_nil ?_
        refine thenQ_n ?_
        refine aw_seq ?_
        refine aw_region ?_
        refine awl_runp 7 [0, 10, 11, 12, 22] [] (ob := (True ∧ True ∧ True ∧ ((decide ((w.getD (v12).toNat (0 : Int)) < (0 : Int))) = false → True) ∧ ((decide ((w.getD (v12).toNat (0 : Int)) < (0 : Int))) = false → True) ∧ ((decide ((w.getD (v12).toNat (0 : Int)) < (0 : Int))) = false → True) ∧ True ∧ True)) (st' := (⟨24, [(0, [], .v (.c (.pI k))), (10, [], .v (.c (.pS w))), (11, [], .v (.c (.pI (w.length : Int)))), (12, [], .v (.c (.pI v12))), (22, [], .v (.c (.pB ((decide ((w.getD (v12).toNat (0 : Int)) < (0 : Int))) || (decide (k ≤ (w.getD (v12).toNat (0 : Int))))))))], []⟩ : St)) (by kernel_rfl) ⟨trivial, trivial, trivial, (fun _ => trivial), (fun _ => trivial), (fun _ => trivial), trivial, trivial⟩ ?_
        refine awl_nil ?_
        refine thenQ_n ?_
        refine aw_cond (b := ((decide ((w.getD (v12).toNat (0 : Int)) < (0 : Int))) || (decide (k ≤ (w.getD (v12).toNat (0 : Int)))))) (by kernel_rfl) (fun hb => ?_) (fun hb => ?_)
        · have h := h.1 hb
          refine aw_seq ?_
          refine aw_region ?_
          refine awl_runp 1 [4] [] (ob := (True ∧ True)) (st' := (⟨24, [(4, [], .v (.c (.pI (2 : Int))))], []⟩ : St)) (by kernel_rfl) ⟨trivial, trivial⟩ ?_
          refine awl_nil ?_
          refine thenQ_n ?_
          refine aw_ret ?_
          refine blockQ_r ?_
          refine thenQ_r ?_
          refine thenQ_r ?_
          refine blockQ_r ?_
          refine thenQ_r ?_
          exact retQ_r (σ := Int) (R := (fun y => [toV1 (.int .i64) y])) (ob := (True ∧ True)) (2 : Int) (by kernel_rfl) ⟨trivial, trivial⟩ h
        · have h := h.2 hb
          refine aw_skip ?_
          refine blockQ_n ?_
          refine thenQ_n ?_
          refine aw_region ?_
          obtain ⟨o1, h⟩ := h
          refine awl_runp 2 [0, 10, 11, 12] [] (ob := (InR (v12 + (1 : Int)) ∧ True ∧ True)) (st' := (⟨24, [(0, [], .v (.c (.pI k))), (10, [], .v (.c (.pS w))), (11, [], .v (.c (.pI (w.length : Int)))), (12, [], .v (.c (.pI (v12 + (1 : Int)))))], []⟩ : St)) (by kernel_rfl) ⟨o1, trivial, trivial⟩ ?_
          refine awl_nil ?_
          exact thenQ_n ⟨(v12 + (1 : Int)), rfl, h⟩
      · have h := h.2 hb
        refine aw_conv [.prune [] []] (st' := (⟨24, [], []⟩ : St)) (by kernel_rfl) ?_
        refine aw_exit ?_
        refine thenQ_x ?_
        refine thenQ_x ?_
        refine blockQ_hit ?_
        exact rest1 () h

-- coppicer/coppicerkeep.said
def VC24 (k : Int) (l : LN) (w : LI) (K : Bool → Prop) : Prop :=
  VC47 k l (fun (ret9v : Int) => gcall (α := Int) (decide (ret9v = (0 : Int))) (VC16 k w) (0 : Int) (fun (ret14v : Int) => K ((decide (ret9v = (0 : Int))) && (decide (ret14v = (0 : Int))))))

set_option maxHeartbeats 4000000 in
theorem link24 (k : Int) (l : LN) (w : LI) (K : Bool → Prop) (h : VC24 k l w K) : ACalls Try.prog 24 [toV1 (.int .i64) k, toV1 (.sl t3) l, toV1 (.sl (.int .i64)) w] (fun res => ∃ y, res = (fun y => [toV1 .bool y]) y ∧ K y) := by
  refine acalls_of_aw [.bool] [.t 6] Try.func24 rfl rfl rfl ?_
  unfold VC24 at h
  refine aw_seq ?_
  refine aw_region ?_
  refine awl_runp 1 [0, 1, 2] [] (ob := (True ∧ True)) (st' := (⟨17, [(0, [], .v (.c (.pI k))), (1, [], .v (.c (.p (.sl t3) l))), (2, [], .v (.c (.pS w)))], []⟩ : St)) (by kernel_rfl) ⟨trivial, trivial⟩ ?_
  refine awl_nil ?_
  refine thenQ_n ?_
  refine aw_seq ?_
  refine aw_region ?_
  refine awl_runp 2 [0, 2, 7, 8] [] (ob := (True ∧ True ∧ True)) (st' := (⟨17, [(0, [], .v (.c (.pI k))), (2, [], .v (.c (.pS w))), (7, [], .v (.c (.pI k))), (8, [], .v (.c (.p (.sl t3) l)))], []⟩ : St)) (by kernel_rfl) ⟨trivial, trivial, trivial⟩ ?_
  refine awl_callk (p := []) (l := [toV1 (.int .i64) k, toV1 (.sl t3) l]) (cl := []) false [.d (.int .i64), .d (.sl t3)] [0, 2, 9] [] (fun (ret9v : Int) => gcall (α := Int) (decide (ret9v = (0 : Int))) (VC16 k w) (0 : Int) (fun (ret14v : Int) => K ((decide (ret9v = (0 : Int))) && (decide (ret14v = (0 : Int)))))) (fun ret9v => [toV1 (.int .i64) ret9v]) (fun ret9v => (⟨17, [(0, [], .v (.c (.pI k))), (2, [], .v (.c (.pS w))), (9, [], .v (.c (.pI ret9v)))], []⟩ : St)) (by kernel_rfl) rfl (by kernel_rfl) rfl (by kernel_rfl) Try.call47 (by kernel_rfl) (fun ret9v => by kernel_rfl) (fun e => by cases e) (fun hg => link47 k l _ h) (fun hg => noF hg) (fun ret9v h => ?_)
  have h : gcall (α := Int) (decide (ret9v = (0 : Int))) (VC16 k w) (0 : Int) (fun (ret14v : Int) => K ((decide (ret9v = (0 : Int))) && (decide (ret14v = (0 : Int))))) := h
  refine awl_runp 4 [11, 12, 13] [] (ob := (True ∧ True ∧ ((decide (ret9v = (0 : Int))) = true → True) ∧ ((decide (ret9v = (0 : Int))) = true → True) ∧ True)) (st' := (⟨17, [(11, [], .v (.c (.pB (decide (ret9v = (0 : Int)))))), (12, [(11, true)], .v (.c (.pI k))), (13, [(11, true)], .v (.c (.pS w)))], []⟩ : St)) (by kernel_rfl) ⟨trivial, trivial, (fun _ => trivial), (fun _ => trivial), trivial⟩ ?_
  refine awl_callk (p := [(11, true)]) (l := [toV1 (.int .i64) k, toV1 (.sl (.int .i64)) w]) (cl := []) false [.d (.int .i64), .d (.sl (.int .i64))] [11, 14] [] (fun (ret14v : Int) => K ((decide (ret9v = (0 : Int))) && (decide (ret14v = (0 : Int))))) (fun ret14v => [toV1 (.int .i64) ret14v]) (fun ret14v => (⟨17, [(11, [], .v (.c (.pB (decide (ret9v = (0 : Int)))))), (14, [(11, true)], .v (.c (.pI ret14v)))], []⟩ : St)) (by kernel_rfl) rfl (by kernel_rfl) rfl (by kernel_rfl) Try.call16 (by kernel_rfl) (fun ret14v => by kernel_rfl) (fun e => by cases e) (fun hg => link16 k w _ (by have := gcall_T h (show (decide (ret9v = (0 : Int))) = true from hg); exact this)) (fun hg => ⟨(0 : Int), by have := gcall_F h (show (decide (ret9v = (0 : Int))) = false from hg); exact this⟩) (fun ret14v h => ?_)
  have h : K ((decide (ret9v = (0 : Int))) && (decide (ret14v = (0 : Int)))) := h
  refine awl_runp 3 [6] [] (ob := (((decide (ret9v = (0 : Int))) = true → True) ∧ True ∧ True ∧ True)) (st' := (⟨17, [(6, [], .v (.c (.pB ((decide (ret9v = (0 : Int))) && (decide (ret14v = (0 : Int)))))))], []⟩ : St)) (by kernel_rfl) ⟨(fun _ => trivial), trivial, trivial, trivial⟩ ?_
  refine awl_nil ?_
  refine thenQ_n ?_
  refine aw_ret ?_
  exact retQ_r (σ := Bool) (R := (fun y => [toV1 .bool y])) (ob := (True ∧ True)) ((decide (ret9v = (0 : Int))) && (decide (ret14v = (0 : Int)))) (by kernel_rfl) ⟨trivial, trivial⟩ h

-- coppicer/net.Check
def VC62_k1 (n : (Int × (Int × (LN × (Int × Int))))) (K : Int → Prop) : Prop :=
  ((0 ≤ (bOr .u32 n.2.2.2.1 n.2.2.2.2) ∧ 0 ≤ n.1) ∧ (((!decide ((bShr .u32 (bOr .u32 n.2.2.2.1 n.2.2.2.2) n.1) = (0 : Int))) = true → K (4 : Int)) ∧ ((!decide ((bShr .u32 (bOr .u32 n.2.2.2.1 n.2.2.2.2) n.1) = (0 : Int))) = false → K (0 : Int))))

def VC62_l1 (n : (Int × (Int × (LN × (Int × Int))))) (K : Int → Prop) (v32 : Int) (X1 : Int → Prop) : Prop :=
  (((decide (v32 < (n.2.2.1.length : Int))) = true → (inIdx v32 n.2.2.1.length ∧ ((((((((decide ((n.2.2.1.getD (v32).toNat z3).1 < (0 : Int))) || (decide (n.1 ≤ (n.2.2.1.getD (v32).toNat z3).1))) || (decide ((n.2.2.1.getD (v32).toNat z3).2.2 < (0 : Int)))) || (decide (n.1 ≤ (n.2.2.1.getD (v32).toNat z3).2.2))) || (decide ((n.2.2.1.getD (v32).toNat z3).2.1 < (-1 : Int)))) || (decide (n.2.1 ≤ (n.2.2.1.getD (v32).toNat z3).2.1))) = true → K (2 : Int)) ∧ (((((((decide ((n.2.2.1.getD (v32).toNat z3).1 < (0 : Int))) || (decide (n.1 ≤ (n.2.2.1.getD (v32).toNat z3).1))) || (decide ((n.2.2.1.getD (v32).toNat z3).2.2 < (0 : Int)))) || (decide (n.1 ≤ (n.2.2.1.getD (v32).toNat z3).2.2))) || (decide ((n.2.2.1.getD (v32).toNat z3).2.1 < (-1 : Int)))) || (decide (n.2.1 ≤ (n.2.2.1.getD (v32).toNat z3).2.1))) = false → (InR (v32 + (1 : Int)) ∧ X1 (v32 + (1 : Int))))))) ∧ ((decide (v32 < (n.2.2.1.length : Int))) = false → VC62_k1 n K))

def VC62 (n : (Int × (Int × (LN × (Int × Int))))) (K : Int → Prop) : Prop :=
  (((((((decide (n.1 < (1 : Int))) || (decide ((7 : Int) < n.1))) || (decide (n.2.1 < (1 : Int)))) || (decide ((3 : Int) < n.2.1))) || (decide ((60 : Int) < (n.2.2.1.length : Int)))) = true → K (1 : Int)) ∧ ((((((decide (n.1 < (1 : Int))) || (decide ((7 : Int) < n.1))) || (decide (n.2.1 < (1 : Int)))) || (decide ((3 : Int) < n.2.1))) || (decide ((60 : Int) < (n.2.2.1.length : Int)))) = false → Loop (σ := Int) (fun s X => VC62_l1 n K s X) (0 : Int)))

set_option maxHeartbeats 4000000 in
theorem link62 (n : (Int × (Int × (LN × (Int × Int))))) (K : Int → Prop) (h : VC62 n K) : ACalls Try.prog 62 [toV1 (.pr (.int .i64) (.pr (.int .i64) (.pr (.sl t3) (.pr (.int .u32) (.int .u32))))) n] (fun res => ∃ y, res = (fun y => [toV1 (.int .i64) y]) y ∧ K y) := by
  refine acalls_of_aw [(.int .i64)] [.t 2] Try.func62 rfl rfl rfl ?_
  unfold VC62 at h
  refine aw_seq ?_
  refine aw_region ?_
  refine awl_runp 2 [1] [1] (ob := (True ∧ True ∧ True)) (st' := (⟨80, [(1, [], .v (.c (.ptr 1 0)))], [(1, [], .box [.pI n.1, .pI n.2.1, .p (.sl t3) n.2.2.1, .p (.int .u32) n.2.2.2.1, .p (.int .u32) n.2.2.2.2])]⟩ : St)) (by kernel_rfl) ⟨trivial, trivial, trivial⟩ ?_
  refine awl_nil ?_
  refine thenQ_n ?_
  refine aw_seq ?_
  refine aw_seq ?_
  refine aw_region ?_
  refine awl_runp 24 [1, 28] [1] (ob := (True ∧ True ∧ True ∧ True ∧ ((decide (n.1 < (1 : Int))) = false → True) ∧ ((decide (n.1 < (1 : Int))) = false → True) ∧ ((decide (n.1 < (1 : Int))) = false → True) ∧ True ∧ True ∧ (((decide (n.1 < (1 : Int))) || (decide ((7 : Int) < n.1))) = false → True) ∧ (((decide (n.1 < (1 : Int))) || (decide ((7 : Int) < n.1))) = false → True) ∧ (((decide (n.1 < (1 : Int))) || (decide ((7 : Int) < n.1))) = false → True) ∧ True ∧ True ∧ ((((decide (n.1 < (1 : Int))) || (decide ((7 : Int) < n.1))) || (decide (n.2.1 < (1 : Int)))) = false → True) ∧ ((((decide (n.1 < (1 : Int))) || (decide ((7 : Int) < n.1))) || (decide (n.2.1 < (1 : Int)))) = false → True) ∧ ((((decide (n.1 < (1 : Int))) || (decide ((7 : Int) < n.1))) || (decide (n.2.1 < (1 : Int)))) = false → True) ∧ True ∧ True ∧ (((((decide (n.1 < (1 : Int))) || (decide ((7 : Int) < n.1))) || (decide (n.2.1 < (1 : Int)))) || (decide ((3 : Int) < n.2.1))) = false → True) ∧ (((((decide (n.1 < (1 : Int))) || (decide ((7 : Int) < n.1))) || (decide (n.2.1 < (1 : Int)))) || (decide ((3 : Int) < n.2.1))) = false → True) ∧ (((((decide (n.1 < (1 : Int))) || (decide ((7 : Int) < n.1))) || (decide (n.2.1 < (1 : Int)))) || (decide ((3 : Int) < n.2.1))) = false → True) ∧ (((((decide (n.1 < (1 : Int))) || (decide ((7 : Int) < n.1))) || (decide (n.2.1 < (1 : Int)))) || (decide ((3 : Int) < n.2.1))) = false → True) ∧ True ∧ True)) (st' := (⟨80, [(1, [], .v (.c (.ptr 1 0))), (28, [], .v (.c (.pB (((((decide (n.1 < (1 : Int))) || (decide ((7 : Int) < n.1))) || (decide (n.2.1 < (1 : Int)))) || (decide ((3 : Int) < n.2.1))) || (decide ((60 : Int) < (n.2.2.1.length : Int)))))))], [(1, [], .box [.pI n.1, .pI n.2.1, .p (.sl t3) n.2.2.1, .p (.int .u32) n.2.2.2.1, .p (.int .u32) n.2.2.2.2])]⟩ : St)) (by kernel_rfl) ⟨trivial, trivial, trivial, trivial, (fun _ => trivial), (fun _ => trivial), (fun _ => trivial), trivial, trivial, (fun _ => trivial), (fun _ => trivial), (fun _ => trivial), trivial, trivial, (fun _ => trivial), (fun _ => trivial), (fun _ => trivial), trivial, trivial, (fun _ => trivial), (fun _ => trivial), (fun _ => trivial), (fun _ => trivial), trivial, trivial⟩ ?_
  refine awl_nil ?_
  refine thenQ_n ?_
  refine aw_cond (b := (((((decide (n.1 < (1 : Int))) || (decide ((7 : Int) < n.1))) || (decide (n.2.1 < (1 : Int)))) || (decide ((3 : Int) < n.2.1))) || (decide ((60 : Int) < (n.2.2.1.length : Int))))) (by kernel_rfl) (fun hb => ?_) (fun hb => ?_)
  · have h := h.1 hb
    refine aw_seq ?_
    refine aw_region ?_
    refine awl_runp 1 [2] [] (ob := (True ∧ True)) (st' := (⟨80, [(2, [], .v (.c (.pI (1 : Int))))], []⟩ : St)) (by kernel_rfl) ⟨trivial, trivial⟩ ?_
    refine awl_nil ?_
    refine thenQ_n ?_
    refine aw_ret ?_
    refine thenQ_r ?_
    exact retQ_r (σ := Int) (R := (fun y => [toV1 (.int .i64) y])) (ob := (True ∧ True)) (1 : Int) (by kernel_rfl) ⟨trivial, trivial⟩ h
  · have h := h.2 hb
    refine aw_skip ?_
    refine thenQ_n ?_
    refine aw_seq ?_
    refine aw_seq ?_
    refine aw_region ?_
    refine awl_runp 4 [1, 30, 31, 32] [1] (ob := (True ∧ True ∧ True ∧ True ∧ True)) (st' := (⟨80, [(1, [], .v (.c (.ptr 1 0))), (30, [], .v (.c (.p (.sl t3) n.2.2.1))), (31, [], .v (.c (.pI (n.2.2.1.length : Int)))), (32, [], .v (.c (.pI (0 : Int))))], [(1, [], .box [.pI n.1, .pI n.2.1, .p (.sl t3) n.2.2.1, .p (.int .u32) n.2.2.2.1, .p (.int .u32) n.2.2.2.2])]⟩ : St)) (by kernel_rfl) ⟨trivial, trivial, trivial, trivial, trivial⟩ ?_
    refine awl_nil ?_
    refine thenQ_n ?_
    refine withJoin (σ := Unit) (fun s => (⟨80, [(1, [], .v (.c (.ptr 1 0)))], [(1, [], .box [.pI n.1, .pI n.2.1, .p (.sl t3) n.2.2.1, .p (.int .u32) n.2.2.2.1, .p (.int .u32) n.2.2.2.2])]⟩ : St)) (fun s => VC62_k1 n K) (fun s h => ?_) (fun rest1 => ?_)
    · have h : VC62_k1 n K := h
      unfold VC62_k1 at h
      refine thenQ_n ?_
      refine aw_seq ?_
      refine aw_seq ?_
      refine aw_region ?_
      obtain ⟨o1, h⟩ := h
      refine awl_runp 9 [79] [] (ob := (True ∧ True ∧ True ∧ True ∧ True ∧ True ∧ True ∧ (0 ≤ (bOr .u32 n.2.2.2.1 n.2.2.2.2) ∧ 0 ≤ n.1) ∧ True ∧ True)) (st' := (⟨80, [(79, [], .v (.c (.pB (!decide ((bShr .u32 (bOr .u32 n.2.2.2.1 n.2.2.2.2) n.1) = (0 : Int))))))], []⟩ : St)) (by kernel_rfl) ⟨trivial, trivial, trivial, trivial, trivial, trivial, trivial, o1, trivial, trivial⟩ ?_
      refine awl_nil ?_
      refine thenQ_n ?_
      refine aw_cond (b := (!decide ((bShr .u32 (bOr .u32 n.2.2.2.1 n.2.2.2.2) n.1) = (0 : Int)))) (by kernel_rfl) (fun hb => ?_) (fun hb => ?_)
      · have h := h.1 hb
        refine aw_seq ?_
        refine aw_region ?_
        refine awl_runp 1 [2] [] (ob := (True ∧ True)) (st' := (⟨80, [(2, [], .v (.c (.pI (4 : Int))))], []⟩ : St)) (by kernel_rfl) ⟨trivial, trivial⟩ ?_
        refine awl_nil ?_
        refine thenQ_n ?_
        refine aw_ret ?_
        refine thenQ_r ?_
        exact retQ_r (σ := Int) (R := (fun y => [toV1 (.int .i64) y])) (ob := (True ∧ True)) (4 : Int) (by kernel_rfl) ⟨trivial, trivial⟩ h
      · have h := h.2 hb
        refine aw_skip ?_
        refine thenQ_n ?_
        refine aw_seq ?_
        refine aw_region ?_
        refine awl_runp 1 [2] [] (ob := (True ∧ True)) (st' := (⟨80, [(2, [], .v (.c (.pI (0 : Int))))], []⟩ : St)) (by kernel_rfl) ⟨trivial, trivial⟩ ?_
        refine awl_nil ?_
        refine thenQ_n ?_
        refine aw_ret ?_
        exact retQ_r (σ := Int) (R := (fun y => [toV1 (.int .i64) y])) (ob := (True ∧ True)) (0 : Int) (by kernel_rfl) ⟨trivial, trivial⟩ h
    · refine aw_block ?_
      refine aw_loop (σ := Int) (fun s => (⟨80, [(1, [], .v (.c (.ptr 1 0))), (30, [], .v (.c (.p (.sl t3) n.2.2.1))), (31, [], .v (.c (.pI (n.2.2.1.length : Int)))), (32, [], .v (.c (.pI s)))], [(1, [], .box [.pI n.1, .pI n.2.1, .p (.sl t3) n.2.2.1, .p (.int .u32) n.2.2.2.1, .p (.int .u32) n.2.2.2.2])]⟩ : St)) (fun s X => VC62_l1 n K s X) (s0 := (0 : Int)) (fun v32 X1 h => ?_) h
      have h : VC62_l1 n K v32 X1 := h
      unfold VC62_l1 at h
      refine aw_seq ?_
      refine aw_region ?_
      refine awl_runp 1 [1, 30, 31, 32, 33] [1] (ob := (True ∧ True)) (st' := (⟨80, [(1, [], .v (.c (.ptr 1 0))), (30, [], .v (.c (.p (.sl t3) n.2.2.1))), (31, [], .v (.c (.pI (n.2.2.1.length : Int)))), (32, [], .v (.c (.pI v32))), (33, [], .v (.c (.pB (decide (v32 < (n.2.2.1.length : Int))))))], [(1, [], .box [.pI n.1, .pI n.2.1, .p (.sl t3) n.2.2.1, .p (.int .u32) n.2.2.2.1, .p (.int .u32) n.2.2.2.2])]⟩ : St)) (by kernel_rfl) ⟨trivial, trivial⟩ ?_
      refine awl_nil ?_
      refine thenQ_n ?_
      refine aw_seq ?_
      refine aw_cond (b := (decide (v32 < (n.2.2.1.length : Int)))) (by kernel_rfl) (fun hb => ?_) (fun hb => ?_)
      · have h := h.1 hb
        refine aw_skip ?_
        refine thenQ_n ?_
        refine aw_seq ?_
        refine aw_block ?_
        refine aw_seq ?_
        refine aw_region ?_
        obtain ⟨o1, h⟩ := h
        refine awl_runp 4 [1, 4, 30, 31, 32] [1, 4] (ob := (inIdx v32 n.2.2.1.length ∧ True ∧ True ∧ True ∧ True)) (st' := (⟨80, [(1, [], .v (.c (.ptr 1 0))), (4, [], .v (.c (.ptr 4 0))), (30, [], .v (.c (.p (.sl t3) n.2.2.1))), (31, [], .v (.c (.pI (n.2.2.1.length : Int)))), (32, [], .v (.c (.pI v32)))], [(1, [], .box [.pI n.1, .pI n.2.1, .p (.sl t3) n.2.2.1, .p (.int .u32) n.2.2.2.1, .p (.int .u32) n.2.2.2.2]), (4, [], .box [.pI ((n.2.2.1.getD (v32).toNat z3).1), .pI ((n.2.2.1.getD (v32).toNat z3).2.1), .pI ((n.2.2.1.getD (v32).toNat z3).2.2)])]⟩ : St)) (by kernel_rfl) ⟨o1, trivial, trivial, trivial, trivial⟩ ?_
        refine awl_nil ?_
        refine thenQ_n ?_
        refine aw_seq ?_
        refine aw_region ?_
        refine awl_runp 34 [1, 30, 31, 32, 69] [1] (ob := (True ∧ True ∧ True ∧ True ∧ ((decide ((n.2.2.1.getD (v32).toNat z3).1 < (0 : Int))) = false → True) ∧ ((decide ((n.2.2.1.getD (v32).toNat z3).1 < (0 : Int))) = false → True) ∧ ((decide ((n.2.2.1.getD (v32).toNat z3).1 < (0 : Int))) = false → True) ∧ ((decide ((n.2.2.1.getD (v32).toNat z3).1 < (0 : Int))) = false → True) ∧ ((decide ((n.2.2.1.getD (v32).toNat z3).1 < (0 : Int))) = false → True) ∧ True ∧ True ∧ (((decide ((n.2.2.1.getD (v32).toNat z3).1 < (0 : Int))) || (decide (n.1 ≤ (n.2.2.1.getD (v32).toNat z3).1))) = false → True) ∧ (((decide ((n.2.2.1.getD (v32).toNat z3).1 < (0 : Int))) || (decide (n.1 ≤ (n.2.2.1.getD (v32).toNat z3).1))) = false → True) ∧ (((decide ((n.2.2.1.getD (v32).toNat z3).1 < (0 : Int))) || (decide (n.1 ≤ (n.2.2.1.getD (v32).toNat z3).1))) = false → True) ∧ True ∧ True ∧ ((((decide ((n.2.2.1.getD (v32).toNat z3).1 < (0 : Int))) || (decide (n.1 ≤ (n.2.2.1.getD (v32).toNat z3).1))) || (decide ((n.2.2.1.getD (v32).toNat z3).2.2 < (0 : Int)))) = false → True) ∧ ((((decide ((n.2.2.1.getD (v32).toNat z3).1 < (0 : Int))) || (decide (n.1 ≤ (n.2.2.1.getD (v32).toNat z3).1))) || (decide ((n.2.2.1.getD (v32).toNat z3).2.2 < (0 : Int)))) = false → True) ∧ ((((decide ((n.2.2.1.getD (v32).toNat z3).1 < (0 : Int))) || (decide (n.1 ≤ (n.2.2.1.getD (v32).toNat z3).1))) || (decide ((n.2.2.1.getD (v32).toNat z3).2.2 < (0 : Int)))) = false → True) ∧ ((((decide ((n.2.2.1.getD (v32).toNat z3).1 < (0 : Int))) || (decide (n.1 ≤ (n.2.2.1.getD (v32).toNat z3).1))) || (decide ((n.2.2.1.getD (v32).toNat z3).2.2 < (0 : Int)))) = false → True) ∧ ((((decide ((n.2.2.1.getD (v32).toNat z3).1 < (0 : Int))) || (decide (n.1 ≤ (n.2.2.1.getD (v32).toNat z3).1))) || (decide ((n.2.2.1.getD (v32).toNat z3).2.2 < (0 : Int)))) = false → True) ∧ True ∧ True ∧ (((((decide ((n.2.2.1.getD (v32).toNat z3).1 < (0 : Int))) || (decide (n.1 ≤ (n.2.2.1.getD (v32).toNat z3).1))) || (decide ((n.2.2.1.getD (v32).toNat z3).2.2 < (0 : Int)))) || (decide (n.1 ≤ (n.2.2.1.getD (v32).toNat z3).2.2))) = false → True) ∧ (((((decide ((n.2.2.1.getD (v32).toNat z3).1 < (0 : Int))) || (decide (n.1 ≤ (n.2.2.1.getD (v32).toNat z3).1))) || (decide ((n.2.2.1.getD (v32).toNat z3).2.2 < (0 : Int)))) || (decide (n.1 ≤ (n.2.2.1.getD (v32).toNat z3).2.2))) = false → True) ∧ (((((decide ((n.2.2.1.getD (v32).toNat z3).1 < (0 : Int))) || (decide (n.1 ≤ (n.2.2.1.getD (v32).toNat z3).1))) || (decide ((n.2.2.1.getD (v32).toNat z3).2.2 < (0 : Int)))) || (decide (n.1 ≤ (n.2.2.1.getD (v32).toNat z3).2.2))) = false → True) ∧ True ∧ True ∧ ((((((decide ((n.2.2.1.getD (v32).toNat z3).1 < (0 : Int))) || (decide (n.1 ≤ (n.2.2.1.getD (v32).toNat z3).1))) || (decide ((n.2.2.1.getD (v32).toNat z3).2.2 < (0 : Int)))) || (decide (n.1 ≤ (n.2.2.1.getD (v32).toNat z3).2.2))) || (decide ((n.2.2.1.getD (v32).toNat z3).2.1 < (-1 : Int)))) = false → True) ∧ ((((((decide ((n.2.2.1.getD (v32).toNat z3).1 < (0 : Int))) || (decide (n.1 ≤ (n.2.2.1.getD (v32).toNat z3).1))) || (decide ((n.2.2.1.getD (v32).toNat z3).2.2 < (0 : Int)))) || (decide (n.1 ≤ (n.2.2.1.getD (v32).toNat z3).2.2))) || (decide ((n.2.2.1.getD (v32).toNat z3).2.1 < (-1 : Int)))) = false → True) ∧ ((((((decide ((n.2.2.1.getD (v32).toNat z3).1 < (0 : Int))) || (decide (n.1 ≤ (n.2.2.1.getD (v32).toNat z3).1))) || (decide ((n.2.2.1.getD (v32).toNat z3).2.2 < (0 : Int)))) || (decide (n.1 ≤ (n.2.2.1.getD (v32).toNat z3).2.2))) || (decide ((n.2.2.1.getD (v32).toNat z3).2.1 < (-1 : Int)))) = false → True) ∧ ((((((decide ((n.2.2.1.getD (v32).toNat z3).1 < (0 : Int))) || (decide (n.1 ≤ (n.2.2.1.getD (v32).toNat z3).1))) || (decide ((n.2.2.1.getD (v32).toNat z3).2.2 < (0 : Int)))) || (decide (n.1 ≤ (n.2.2.1.getD (v32).toNat z3).2.2))) || (decide ((n.2.2.1.getD (v32).toNat z3).2.1 < (-1 : Int)))) = false → True) ∧ ((((((decide ((n.2.2.1.getD (v32).toNat z3).1 < (0 : Int))) || (decide (n.1 ≤ (n.2.2.1.getD (v32).toNat z3).1))) || (decide ((n.2.2.1.getD (v32).toNat z3).2.2 < (0 : Int)))) || (decide (n.1 ≤ (n.2.2.1.getD (v32).toNat z3).2.2))) || (decide ((n.2.2.1.getD (v32).toNat z3).2.1 < (-1 : Int)))) = false → True) ∧ True ∧ True)) (st' := (⟨80, [(1, [], .v (.c (.ptr 1 0))), (30, [], .v (.c (.p (.sl t3) n.2.2.1))), (31, [], .v (.c (.pI (n.2.2.1.length : Int)))), (32, [], .v (.c (.pI v32))), (69, [], .v (.c (.pB ((((((decide ((n.2.2.1.getD (v32).toNat z3).1 < (0 : Int))) || (decide (n.1 ≤ (n.2.2.1.getD (v32).toNat z3).1))) || (decide ((n.2.2.1.getD (v32).toNat z3).2.2 < (0 : Int)))) || (decide (n.1 ≤ (n.2.2.1.getD (v32).toNat z3).2.2))) || (decide ((n.2.2.1.getD (v32).toNat z3).2.1 < (-1 : Int)))) || (decide (n.2.1 ≤ (n.2.2.1.getD (v32).toNat z3).2.1))))))], [(1, [], .box [.pI n.1, .pI n.2.1, .p (.sl t3) n.2.2.1, .p (.int .u32) n.2.2.2.1, .p (.int .u32) n.2.2.2.2])]⟩ : St)) (by kernel_rfl) ⟨trivial, trivial, trivial, trivial, (fun _ => trivial), (fun _ => trivial), (fun _ => trivial), (fun _ => trivial), (fun _ => trivial), trivial, trivial, (fun _ => trivial), (fun _ => trivial), (fun _ => trivial), trivial, trivial, (fun _ => trivial), (fun _ => trivial), (fun _ => trivial), (fun _ => trivial), (fun _ => trivial), trivial, trivial, (fun _ => trivial), (fun _ => trivial), (fun _ => trivial), trivial, trivial, (fun _ => trivial), (fun _ => trivial), (fun _ => trivial), (fun _ => trivial), (fun _ => trivial), trivial, trivial⟩ ?_
        refine awl_nil ?_
        refine thenQ_n ?_
        refine aw_cond (b := ((((((decide ((n.2.2.1.getD (v32).toNat z3).1 < (0 : Int))) || (decide (n.1 ≤ (n.2.2.1.getD (v32).toNat z3).1))) || (decide ((n.2.2.1.getD (v32).toNat z3).2.2 < (0 : Int)))) || (decide (n.1 ≤ (n.2.2.1.getD (v32).toNat z3).2.2))) || (decide ((n.2.2.1.getD (v32).toNat z3).2.1 < (-1 : Int)))) || (decide (n.2.1 ≤ (n.2.2.1.getD (v32).toNat z3).2.1)))) (by kernel_rfl) (fun hb => ?_) (fun hb => ?_)
        · have h := h.1 hb
          refine aw_seq ?_
          refine aw_region ?_
          refine awl_runp 1 [2] [] (ob := (True ∧ True)) (st' := (⟨80, [(2, [], .v (.c (.pI (2 : Int))))], []⟩ : St)) (by kernel_rfl) ⟨trivial, trivial⟩ ?_
          refine awl_nil ?_
          refine thenQ_n ?_
          refine aw_ret ?_
          refine blockQ_r ?_
          refine thenQ_r ?_
          refine thenQ_r ?_
          refine blockQ_r ?_
          refine thenQ_r ?_
          exact retQ_r (σ := Int) (R := (fun y => [toV1 (.int .i64) y])) (ob := (True ∧ True)) (2 : Int) (by kernel_rfl) ⟨trivial, trivial⟩ h
        · have h := h.2 hb
          refine aw_skip ?_
          refine blockQ_n ?_
          refine thenQ_n ?_
          refine aw_region ?_
          obtain ⟨o1, h⟩ := h
          refine awl_runp 2 [1, 30, 31, 32] [1] (ob := (InR (v32 + (1 : Int)) ∧ True ∧ True)) (st' := (⟨80, [(1, [], .v (.c (.ptr 1 0))), (30, [], .v (.c (.p (.sl t3) n.2.2.1))), (31, [], .v (.c (.pI (n.2.2.1.length : Int)))), (32, [], .v (.c (.pI (v32 + (1 : Int)))))], [(1, [], .box [.pI n.1, .pI n.2.1, .p (.sl t3) n.2.2.1, .p (.int .u32) n.2.2.2.1, .p (.int .u32) n.2.2.2.2])]⟩ : St)) (by kernel_rfl) ⟨o1, trivial, trivial⟩ ?_
          refine awl_nil ?_
          exact thenQ_n ⟨(v32 + (1 : Int)), rfl, h⟩
      · have h := h.2 hb
        refine aw_conv [.prune [1] [1]] (st' := (⟨80, [(1, [], .v (.c (.ptr 1 0)))], [(1, [], .box [.pI n.1, .pI n.2.1, .p (.sl t3) n.2.2.1, .p (.int .u32) n.2.2.2.1, .p (.int .u32) n.2.2.2.2])]⟩ : St)) (by kernel_rfl) ?_
        refine aw_exit ?_
        refine thenQ_x ?_
        refine thenQ_x ?_
        refine blockQ_hit ?_
        exact rest1 () h

-- coppicer/net.still
def VC63_k1 (K : Int → Prop) (setv2 : Int) (X1 : Int → Prop) (setv3 : Int) : Prop :=
  (((decide (setv3 = setv2)) = true → K setv3) ∧ ((decide (setv3 = setv2)) = false → X1 setv3))

def VC63_k2 (v12 : Int) (X2 : Int × Int → Prop) (setv4 : Int) : Prop :=
  (InR (v12 + (1 : Int)) ∧ X2 (setv4, (v12 + (1 : Int))))

def VC63_l2 (n : (Int × (Int × (LN × (Int × Int))))) (K : Int → Prop) (setv2 : Int) (X1 : Int → Prop) (setv3 : Int) (v12 : Int) (X2 : Int × Int → Prop) : Prop :=
  (((decide (v12 < (n.2.2.1.length : Int))) = true → (inIdx v12 n.2.2.1.length ∧ gcall (α := Bool) (decide ((n.2.2.1.getD (v12).toNat z3).2.1 < (0 : Int))) (VC44 setv3 ((n.2.2.1.getD (v12).toNat z3).1)) false (fun (ret23v : Bool) => ((((decide ((n.2.2.1.getD (v12).toNat z3).2.1 < (0 : Int))) && ret23v) = true → (0 ≤ (n.2.2.1.getD (v12).toNat z3).2.2 ∧ VC63_k2 v12 X2 (bOr .u32 setv3 (bShl .u32 (1 : Int) ((n.2.2.1.getD (v12).toNat z3).2.2))))) ∧ (((decide ((n.2.2.1.getD (v12).toNat z3).2.1 < (0 : Int))) && ret23v) = false → VC63_k2 v12 X2 setv3))))) ∧ ((decide (v12 < (n.2.2.1.length : Int))) = false → VC63_k1 K setv2 X1 setv3))

def VC63_l1 (n : (Int × (Int × (LN × (Int × Int))))) (K : Int → Prop) (setv2 : Int) (X1 : Int → Prop) : Prop :=
  Loop (σ := Int × Int) (fun s X => VC63_l2 n K setv2 X1 s.1 s.2 X) (setv2, (0 : Int))

def VC63 (n : (Int × (Int × (LN × (Int × Int))))) (setv : Int) (K : Int → Prop) : Prop :=
  Loop (σ := Int) (fun s X => VC63_l1 n K s X) setv

set_option maxHeartbeats 4000000 in
theorem link63 (n : (Int × (Int × (LN × (Int × Int))))) (setv : Int) (K : Int → Prop) (h : VC63 n setv K) : ACalls Try.prog 63 [toV1 (.pr (.int .i64) (.pr (.int .i64) (.pr (.sl t3) (.pr (.int .u32) (.int .u32))))) n, toV1 (.int .u32) setv] (fun res => ∃ y, res = (fun y => [toV1 (.int .u32) y]) y ∧ K y) := by
  refine acalls_of_aw [(.int .u32)] [.t 4] Try.func63 rfl rfl rfl ?_
  unfold VC63 at h
  refine aw_seq ?_
  refine aw_region ?_
  refine awl_runp 2 [1, 2] [2] (ob := (True ∧ True ∧ True)) (st' := (⟨35, [(1, [], .v (.c (.p (.int .u32) setv))), (2, [], .v (.c (.ptr 2 0)))], [(2, [], .box [.pI n.1, .pI n.2.1, .p (.sl t3) n.2.2.1, .p (.int .u32) n.2.2.2.1, .p (.int .u32) n.2.2.2.2])]⟩ : St)) (by kernel_rfl) ⟨trivial, trivial, trivial⟩ ?_
  refine awl_nil ?_
  refine thenQ_n ?_
  refine aw_block ?_
  refine aw_loop (σ := Int) (fun s => (⟨35, [(1, [], .v (.c (.p (.int .u32) s))), (2, [], .v (.c (.ptr 2 0)))], [(2, [], .box [.pI n.1, .pI n.2.1, .p (.sl t3) n.2.2.1, .p (.int .u32) n.2.2.2.1, .p (.int .u32) n.2.2.2.2])]⟩ : St)) (fun s X => VC63_l1 n K s X) (s0 := setv) (fun setv2 X1 h => ?_) h
  have h : VC63_l1 n K setv2 X1 := h
  unfold VC63_l1 at h
  refine aw_block ?_
  refine aw_seq ?_
  refine aw_region ?_
  refine awl_runp 2 [1, 2, 5] [2] (ob := (True ∧ True ∧ True)) (st' := (⟨35, [(1, [], .v (.c (.p (.int .u32) setv2))), (2, [], .v (.c (.ptr 2 0))), (5, [], .v (.c (.p (.int .u32) setv2)))], [(2, [], .box [.pI n.1, .pI n.2.1, .p (.sl t3) n.2.2.1, .p (.int .u32) n.2.2.2.1, .p (.int .u32) n.2.2.2.2])]⟩ : St)) (by kernel_rfl) ⟨trivial, trivial, trivial⟩ ?_
  refine awl_nil ?_
  refine thenQ_n ?_
  refine aw_seq ?_
  refine aw_seq ?_
  refine aw_region ?_
  refine awl_runp 4 [1, 2, 5, 10, 11, 12] [2] (ob := (True ∧ True ∧ True ∧ True ∧ True)) (st' := (⟨35, [(1, [], .v (.c (.p (.int .u32) setv2))), (2, [], .v (.c (.ptr 2 0))), (5, [], .v (.c (.p (.int .u32) setv2))), (10, [], .v (.c (.p (.sl t3) n.2.2.1))), (11, [], .v (.c (.pI (n.2.2.1.length : Int)))), (12, [], .v (.c (.pI (0 : Int))))], [(2, [], .box [.pI n.1, .pI n.2.1, .p (.sl t3) n.2.2.1, .p (.int .u32) n.2.2.2.1, .p (.int .u32) n.2.2.2.2])]⟩ : St)) (by kernel_rfl) ⟨trivial, trivial, trivial, trivial, trivial⟩ ?_
  refine awl_nil ?_
  refine thenQ_n ?_
  refine withJoin (σ := Int) (fun s => (⟨35, [(1, [], .v (.c (.p (.int .u32) s))), (2, [], .v (.c (.ptr 2 0))), (5, [], .v (.c (.p (.int .u32) setv2)))], [(2, [], .box [.pI n.1, .pI n.2.1, .p (.sl t3) n.2.2.1, .p (.int .u32) n.2.2.2.1, .p (.int .u32) n.2.2.2.2])]⟩ : St)) (fun s => VC63_k1 K setv2 X1 s) (fun setv3 h => ?_) (fun rest1 => ?_)
  · have h : VC63_k1 K setv2 X1 setv3 := h
    unfold VC63_k1 at h
    refine thenQ_n ?_
    refine aw_seq ?_
    refine aw_region ?_
    refine awl_runp 3 [1, 2, 33] [2] (ob := (True ∧ True ∧ True ∧ True)) (st' := (⟨35, [(1, [], .v (.c (.p (.int .u32) setv3))), (2, [], .v (.c (.ptr 2 0))), (33, [], .v (.c (.pB (decide (setv3 = setv2)))))], [(2, [], .box [.pI n.1, .pI n.2.1, .p (.sl t3) n.2.2.1, .p (.int .u32) n.2.2.2.1, .p (.int .u32) n.2.2.2.2])]⟩ : St)) (by kernel_rfl) ⟨trivial, trivial, trivial, trivial⟩ ?_
    refine awl_nil ?_
    refine thenQ_n ?_
    refine aw_cond (b := (decide (setv3 = setv2))) (by kernel_rfl) (fun hb => ?_) (fun hb => ?_)
    · have h := h.1 hb
      refine aw_seq ?_
      refine aw_region ?_
      refine awl_runp 2 [4] [] (ob := (True ∧ True ∧ True)) (st' := (⟨35, [(4, [], .v (.c (.p (.int .u32) setv3)))], []⟩ : St)) (by kernel_rfl) ⟨trivial, trivial, trivial⟩ ?_
      refine awl_nil ?_
      refine thenQ_n ?_
      refine aw_ret ?_
      refine blockQ_r ?_
      refine thenQ_r ?_
      refine blockQ_r ?_
      exact retQ_r (σ := Int) (R := (fun y => [toV1 (.int .u32) y])) (ob := (True ∧ True)) setv3 (by kernel_rfl) ⟨trivial, trivial⟩ h
    · have h := h.2 hb
      refine aw_conv [.prune [1, 2] [2]] (st' := (⟨35, [(1, [], .v (.c (.p (.int .u32) setv3))), (2, [], .v (.c (.ptr 2 0)))], [(2, [], .box [.pI n.1, .pI n.2.1, .p (.sl t3) n.2.2.1, .p (.int .u32) n.2.2.2.1, .p (.int .u32) n.2.2.2.2])]⟩ : St)) (by kernel_rfl) ?_
      refine aw_skip ?_
      refine blockQ_n ?_
      exact thenQ_n ⟨setv3, rfl, h⟩
  · refine aw_block ?_
    refine aw_loop (σ := Int × Int) (fun s => (⟨35, [(1, [], .v (.c (.p (.int .u32) s.1))), (2, [], .v (.c (.ptr 2 0))), (5, [], .v (.c (.p (.int .u32) setv2))), (10, [], .v (.c (.p (.sl t3) n.2.2.1))), (11, [], .v (.c (.pI (n.2.2.1.length : Int)))), (12, [], .v (.c (.pI s.2)))], [(2, [], .box [.pI n.1, .pI n.2.1, .p (.sl t3) n.2.2.1, .p (.int .u32) n.2.2.2.1, .p (.int .u32) n.2.2.2.2])]⟩ : St)) (fun s X => VC63_l2 n K setv2 X1 s.1 s.2 X) (s0 := (setv2, (0 : Int))) (fun s X2 h => ?_) h
    obtain ⟨setv3, v12⟩ := s
    have h : VC63_l2 n K setv2 X1 setv3 v12 X2 := h
    unfold VC63_l2 at h
    refine aw_seq ?_
    refine aw_region ?_
    refine awl_runp 1 [1, 2, 5, 10, 11, 12, 13] [2] (ob := (True ∧ True)) (st' := (⟨35, [(1, [], .v (.c (.p (.int .u32) setv3))), (2, [], .v (.c (.ptr 2 0))), (5, [], .v (.c (.p (.int .u32) setv2))), (10, [], .v (.c (.p (.sl t3) n.2.2.1))), (11, [], .v (.c (.pI (n.2.2.1.length : Int)))), (12, [], .v (.c (.pI v12))), (13, [], .v (.c (.pB (decide (v12 < (n.2.2.1.length : Int))))))], [(2, [], .box [.pI n.1, .pI n.2.1, .p (.sl t3) n.2.2.1, .p (.int .u32) n.2.2.2.1, .p (.int .u32) n.2.2.2.2])]⟩ : St)) (by kernel_rfl) ⟨trivial, trivial⟩ ?_
    refine awl_nil ?_
    refine thenQ_n ?_
    refine aw_seq ?_
    refine aw_cond (b := (decide (v12 < (n.2.2.1.length : Int)))) (by kernel_rfl) (fun hb => ?_) (fun hb => ?_)
    · have h := h.1 hb
      refine aw_skip ?_
      refine thenQ_n ?_
      refine aw_seq ?_
      refine aw_block ?_
      refine aw_seq ?_
      refine aw_region ?_
      obtain ⟨o1, h⟩ := h
      refine awl_runp 4 [1, 2, 5, 7, 10, 11, 12] [2, 7] (ob := (inIdx v12 n.2.2.1.length ∧ True ∧ True ∧ True ∧ True)) (st' := (⟨35, [(1, [], .v (.c (.p (.int .u32) setv3))), (2, [], .v (.c (.ptr 2 0))), (5, [], .v (.c (.p (.int .u32) setv2))), (7, [], .v (.c (.ptr 7 0))), (10, [], .v (.c (.p (.sl t3) n.2.2.1))), (11, [], .v (.c (.pI (n.2.2.1.length : Int)))), (12, [], .v (.c (.pI v12)))], [(2, [], .box [.pI n.1, .pI n.2.1, .p (.sl t3) n.2.2.1, .p (.int .u32) n.2.2.2.1, .p (.int .u32) n.2.2.2.2]), (7, [], .box [.pI ((n.2.2.1.getD (v12).toNat z3).1), .pI ((n.2.2.1.getD (v12).toNat z3).2.1), .pI ((n.2.2.1.getD (v12).toNat z3).2.2)])]⟩ : St)) (by kernel_rfl) ⟨o1, trivial, trivial, trivial, trivial⟩ ?_
      refine awl_nil ?_
      refine thenQ_n ?_
      refine aw_seq ?_
      refine aw_region ?_
      refine awl_runp 7 [1, 2, 5, 7, 10, 11, 12, 19, 20, 22] [2, 7] (ob := (True ∧ True ∧ True ∧ True ∧ ((decide ((n.2.2.1.getD (v12).toNat z3).2.1 < (0 : Int))) = true → True) ∧ ((decide ((n.2.2.1.getD (v12).toNat z3).2.1 < (0 : Int))) = true → True) ∧ ((decide ((n.2.2.1.getD (v12).toNat z3).2.1 < (0 : Int))) = true → True) ∧ True)) (st' := (⟨35, [(1, [], .v (.c (.p (.int .u32) setv3))), (2, [], .v (.c (.ptr 2 0))), (5, [], .v (.c (.p (.int .u32) setv2))), (7, [], .v (.c (.ptr 7 0))), (10, [], .v (.c (.p (.sl t3) n.2.2.1))), (11, [], .v (.c (.pI (n.2.2.1.length : Int)))), (12, [], .v (.c (.pI v12))), (19, [], .v (.c (.pB (decide ((n.2.2.1.getD (v12).toNat z3).2.1 < (0 : Int)))))), (20, [(19, true)], .v (.c (.p (.int .u32) setv3))), (22, [(19, true)], .v (.c (.pI ((n.2.2.1.getD (v12).toNat z3).1))))], [(2, [], .box [.pI n.1, .pI n.2.1, .p (.sl t3) n.2.2.1, .p (.int .u32) n.2.2.2.1, .p (.int .u32) n.2.2.2.2]), (7, [], .box [.pI ((n.2.2.1.getD (v12).toNat z3).1), .pI ((n.2.2.1.getD (v12).toNat z3).2.1), .pI ((n.2.2.1.getD (v12).toNat z3).2.2)])]⟩ : St)) (by kernel_rfl) ⟨trivial, trivial, trivial, trivial, (fun _ => trivial), (fun _ => trivial), (fun _ => trivial), trivial⟩ ?_
      refine awl_callk (p := [(19, true)]) (l := [toV1 (.int .u32) setv3, toV1 (.int .i64) ((n.2.2.1.getD (v12).toNat z3).1)]) (cl := []) false [.d (.int .u32), .d (.int .i64)] [1, 2, 5, 7, 10, 11, 12, 19, 23] [2, 7] (fun (ret23v : Bool) => ((((decide ((n.2.2.1.getD (v12).toNat z3).2.1 < (0 : Int))) && ret23v) = true → (0 ≤ (n.2.2.1.getD (v12).toNat z3).2.2 ∧ VC63_k2 v12 X2 (bOr .u32 setv3 (bShl .u32 (1 : Int) ((n.2.2.1.getD (v12).toNat z3).2.2))))) ∧ (((decide ((n.2.2.1.getD (v12).toNat z3).2.1 < (0 : Int))) && ret23v) = false → VC63_k2 v12 X2 setv3))) (fun ret23v => [toV1 .bool ret23v]) (fun ret23v => (⟨35, [(1, [], .v (.c (.p (.int .u32) setv3))), (2, [], .v (.c (.ptr 2 0))), (5, [], .v (.c (.p (.int .u32) setv2))), (7, [], .v (.c (.ptr 7 0))), (10, [], .v (.c (.p (.sl t3) n.2.2.1))), (11, [], .v (.c (.pI (n.2.2.1.length : Int)))), (12, [], .v (.c (.pI v12))), (19, [], .v (.c (.pB (decide ((n.2.2.1.getD (v12).toNat z3).2.1 < (0 : Int)))))), (23, [(19, true)], .v (.c (.pB ret23v)))], [(2, [], .box [.pI n.1, .pI n.2.1, .p (.sl t3) n.2.2.1, .p (.int .u32) n.2.2.2.1, .p (.int .u32) n.2.2.2.2]), (7, [], .box [.pI ((n.2.2.1.getD (v12).toNat z3).1), .pI ((n.2.2.1.getD (v12).toNat z3).2.1), .pI ((n.2.2.1.getD (v12).toNat z3).2.2)])]⟩ : St)) (by kernel_rfl) rfl (by kernel_rfl) rfl (by kernel_rfl) Try.call44 (by kernel_rfl) (fun ret23v => by kernel_rfl) (fun e => by cases e) (fun hg => link44 setv3 ((n.2.2.1.getD (v12).toNat z3).1) _ (by have := gcall_T h (show (decide ((n.2.2.1.getD (v12).toNat z3).2.1 < (0 : Int))) = true from hg); exact this)) (fun hg => ⟨false, by have := gcall_F h (show (decide ((n.2.2.1.getD (v12).toNat z3).2.1 < (0 : Int))) = false from hg); exact this⟩) (fun ret23v h => ?_)
      have h : ((((decide ((n.2.2.1.getD (v12).toNat z3).2.1 < (0 : Int))) && ret23v) = true → (0 ≤ (n.2.2.1.getD (v12).toNat z3).2.2 ∧ VC63_k2 v12 X2 (bOr .u32 setv3 (bShl .u32 (1 : Int) ((n.2.2.1.getD (v12).toNat z3).2.2))))) ∧ (((decide ((n.2.2.1.getD (v12).toNat z3).2.1 < (0 : Int))) && ret23v) = false → VC63_k2 v12 X2 setv3)) := h
      refine awl_runp 1 [1, 2, 5, 7, 10, 11, 12, 24] [2, 7] (ob := (True ∧ True)) (st' := (⟨35, [(1, [], .v (.c (.p (.int .u32) setv3))), (2, [], .v (.c (.ptr 2 0))), (5, [], .v (.c (.p (.int .u32) setv2))), (7, [], .v (.c (.ptr 7 0))), (10, [], .v (.c (.p (.sl t3) n.2.2.1))), (11, [], .v (.c (.pI (n.2.2.1.length : Int)))), (12, [], .v (.c (.pI v12))), (24, [], .v (.c (.pB ((decide ((n.2.2.1.getD (v12).toNat z3).2.1 < (0 : Int))) && ret23v))))], [(2, [], .box [.pI n.1, .pI n.2.1, .p (.sl t3) n.2.2.1, .p (.int .u32) n.2.2.2.1, .p (.int .u32) n.2.2.2.2]), (7, [], .box [.pI ((n.2.2.1.getD (v12).toNat z3).1), .pI ((n.2.2.1.getD (v12).toNat z3).2.1), .pI ((n.2.2.1.getD (v12).toNat z3).2.2)])]⟩ : St)) (by kernel_rfl) ⟨trivial, trivial⟩ ?_
      refine awl_nil ?_
      refine thenQ_n ?_
      refine withJoin (σ := Int) (fun s => (⟨35, [(1, [], .v (.c (.p (.int .u32) s))), (2, [], .v (.c (.ptr 2 0))), (5, [], .v (.c (.p (.int .u32) setv2))), (10, [], .v (.c (.p (.sl t3) n.2.2.1))), (11, [], .v (.c (.pI (n.2.2.1.length : Int)))), (12, [], .v (.c (.pI v12)))], [(2, [], .box [.pI n.1, .pI n.2.1, .p (.sl t3) n.2.2.1, .p (.int .u32) n.2.2.2.1, .p (.int .u32) n.2.2.2.2])]⟩ : St)) (fun s => VC63_k2 v12 X2 s) (fun setv4 h => ?_) (fun rest2 => ?_)
      · have h : VC63_k2 v12 X2 setv4 := h
        unfold VC63_k2 at h
        refine blockQ_n ?_
        refine thenQ_n ?_
        refine aw_region ?_
        obtain ⟨o1, h⟩ := h
        refine awl_runp 2 [1, 2, 5, 10, 11, 12] [2] (ob := (InR (v12 + (1 : Int)) ∧ True ∧ True)) (st' := (⟨35, [(1, [], .v (.c (.p (.int .u32) setv4))), (2, [], .v (.c (.ptr 2 0))), (5, [], .v (.c (.p (.int .u32) setv2))), (10, [], .v (.c (.p (.sl t3) n.2.2.1))), (11, [], .v (.c (.pI (n.2.2.1.length : Int)))), (12, [], .v (.c (.pI (v12 + (1 : Int)))))], [(2, [], .box [.pI n.1, .pI n.2.1, .p (.sl t3) n.2.2.1, .p (.int .u32) n.2.2.2.1, .p (.int .u32) n.2.2.2.2])]⟩ : St)) (by kernel_rfl) ⟨o1, trivial, trivial⟩ ?_
        refine awl_nil ?_
        exact thenQ_n ⟨(setv4, (v12 + (1 : Int))), rfl, h⟩
      · refine aw_cond (b := ((decide ((n.2.2.1.getD (v12).toNat z3).2.1 < (0 : Int))) && ret23v)) (by kernel_rfl) (fun hb => ?_) (fun hb => ?_)
        · have h := h.1 hb
          refine aw_region ?_
          obtain ⟨o1, h⟩ := h
          refine awl_runp 6 [1, 2, 5, 10, 11, 12] [2] (ob := (True ∧ True ∧ True ∧ 0 ≤ (n.2.2.1.getD (v12).toNat z3).2.2 ∧ True ∧ True ∧ True)) (st' := (⟨35, [(1, [], .v (.c (.p (.int .u32) (bOr .u32 setv3 (bShl .u32 (1 : Int) ((n.2.2.1.getD (v12).toNat z3).2.2)))))), (2, [], .v (.c (.ptr 2 0))), (5, [], .v (.c (.p (.int .u32) setv2))), (10, [], .v (.c (.p (.sl t3) n.2.2.1))), (11, [], .v (.c (.pI (n.2.2.1.length : Int)))), (12, [], .v (.c (.pI v12)))], [(2, [], .box [.pI n.1, .pI n.2.1, .p (.sl t3) n.2.2.1, .p (.int .u32) n.2.2.2.1, .p (.int .u32) n.2.2.2.2])]⟩ : St)) (by kernel_rfl) ⟨trivial, trivial, trivial, o1, trivial, trivial, trivial⟩ ?_
          refine awl_nil ?_
          exact rest2 (bOr .u32 setv3 (bShl .u32 (1 : Int) ((n.2.2.1.getD (v12).toNat z3).2.2))) h
        · have h := h.2 hb
          refine aw_conv [.prune [1, 2, 5, 10, 11, 12] [2]] (st' := (⟨35, [(1, [], .v (.c (.p (.int .u32) setv3))), (2, [], .v (.c (.ptr 2 0))), (5, [], .v (.c (.p (.int .u32) setv2))), (10, [], .v (.c (.p (.sl t3) n.2.2.1))), (11, [], .v (.c (.pI (n.2.2.1.length : Int)))), (12, [], .v (.c (.pI v12)))], [(2, [], .box [.pI n.1, .pI n.2.1, .p (.sl t3) n.2.2.1, .p (.int .u32) n.2.2.2.1, .p (.int .u32) n.2.2.2.2])]⟩ : St)) (by kernel_rfl) ?_
          refine aw_skip ?_
          exact rest2 setv3 h
    · have h := h.2 hb
      refine aw_conv [.prune [1, 2, 5] [2]] (st' := (⟨35, [(1, [], .v (.c (.p (.int .u32) setv3))), (2, [], .v (.c (.ptr 2 0))), (5, [], .v (.c (.p (.int .u32) setv2)))], [(2, [], .box [.pI n.1, .pI n.2.1, .p (.sl t3) n.2.2.1, .p (.int .u32) n.2.2.2.1, .p (.int .u32) n.2.2.2.2])]⟩ : St)) (by kernel_rfl) ?_
      refine aw_exit ?_
      refine thenQ_x ?_
      refine thenQ_x ?_
      refine blockQ_hit ?_
      exact rest1 setv3 h

-- coppicer/net.step
def VC64_k1 (n : (Int × (Int × (LN × (Int × Int))))) (K : Int → Prop) (out : Int) : Prop :=
  VC63 n out (fun (ret35v : Int) => K ret35v)

def VC64_k2 (v13 : Int) (X1 : Int × Int → Prop) (out2 : Int) : Prop :=
  (InR (v13 + (1 : Int)) ∧ X1 (out2, (v13 + (1 : Int))))

def VC64_l1 (n : (Int × (Int × (LN × (Int × Int))))) (setv : Int) (sv : Int) (K : Int → Prop) (out : Int) (v13 : Int) (X1 : Int × Int → Prop) : Prop :=
  (((decide (v13 < (n.2.2.1.length : Int))) = true → (inIdx v13 n.2.2.1.length ∧ gcall (α := Bool) (decide ((n.2.2.1.getD (v13).toNat z3).2.1 = sv)) (VC44 setv ((n.2.2.1.getD (v13).toNat z3).1)) false (fun (ret25v : Bool) => ((((decide ((n.2.2.1.getD (v13).toNat z3).2.1 = sv)) && ret25v) = true → (0 ≤ (n.2.2.1.getD (v13).toNat z3).2.2 ∧ VC64_k2 v13 X1 (bOr .u32 out (bShl .u32 (1 : Int) ((n.2.2.1.getD (v13).toNat z3).2.2))))) ∧ (((decide ((n.2.2.1.getD (v13).toNat z3).2.1 = sv)) && ret25v) = false → VC64_k2 v13 X1 out))))) ∧ ((decide (v13 < (n.2.2.1.length : Int))) = false → VC64_k1 n K out))

def VC64 (n : (Int × (Int × (LN × (Int × Int))))) (setv : Int) (sv : Int) (K : Int → Prop) : Prop :=
  Loop (σ := Int × Int) (fun s X => VC64_l1 n setv sv K s.1 s.2 X) ((0 : Int), (0 : Int))

set_option maxHeartbeats 4000000 in
theorem link64 (n : (Int × (Int × (LN × (Int × Int))))) (setv : Int) (sv : Int) (K : Int → Prop) (h : VC64 n setv sv K) : ACalls Try.prog 64 [toV1 (.pr (.int .i64) (.pr (.int .i64) (.pr (.sl t3) (.pr (.int .u32) (.int .u32))))) n, toV1 (.int .u32) setv, toV1 (.int .i64) sv] (fun res => ∃ y, res = (fun y => [toV1 (.int .u32) y]) y ∧ K y) := by
  refine acalls_of_aw [(.int .u32)] [.t 6] Try.func64 rfl rfl rfl ?_
  unfold VC64 at h
  refine aw_seq ?_
  refine aw_region ?_
  refine awl_runp 2 [1, 2, 3] [3] (ob := (True ∧ True ∧ True)) (st' := (⟨36, [(1, [], .v (.c (.p (.int .u32) setv))), (2, [], .v (.c (.pI sv))), (3, [], .v (.c (.ptr 3 0)))], [(3, [], .box [.pI n.1, .pI n.2.1, .p (.sl t3) n.2.2.1, .p (.int .u32) n.2.2.2.1, .p (.int .u32) n.2.2.2.2])]⟩ : St)) (by kernel_rfl) ⟨trivial, trivial, trivial⟩ ?_
  refine awl_nil ?_
  refine thenQ_n ?_
  refine aw_seq ?_
  refine aw_region ?_
  refine awl_runp 1 [1, 2, 3, 7] [3] (ob := (True ∧ True)) (st' := (⟨36, [(1, [], .v (.c (.p (.int .u32) setv))), (2, [], .v (.c (.pI sv))), (3, [], .v (.c (.ptr 3 0))), (7, [], .v (.c (.p (.int .u32) (0 : Int))))], [(3, [], .box [.pI n.1, .pI n.2.1, .p (.sl t3) n.2.2.1, .p (.int .u32) n.2.2.2.1, .p (.int .u32) n.2.2.2.2])]⟩ : St)) (by kernel_rfl) ⟨trivial, trivial⟩ ?_
  refine awl_nil ?_
  refine thenQ_n ?_
  refine aw_seq ?_
  refine aw_seq ?_
  refine aw_region ?_
  refine awl_runp 4 [1, 2, 3, 7, 11, 12, 13] [3] (ob := (True ∧ True ∧ True ∧ True ∧ True)) (st' := (⟨36, [(1, [], .v (.c (.p (.int .u32) setv))), (2, [], .v (.c (.pI sv))), (3, [], .v (.c (.ptr 3 0))), (7, [], .v (.c (.p (.int .u32) (0 : Int)))), (11, [], .v (.c (.p (.sl t3) n.2.2.1))), (12, [], .v (.c (.pI (n.2.2.1.length : Int)))), (13, [], .v (.c (.pI (0 : Int))))], [(3, [], .box [.pI n.1, .pI n.2.1, .p (.sl t3) n.2.2.1, .p (.int .u32) n.2.2.2.1, .p (.int .u32) n.2.2.2.2])]⟩ : St)) (by kernel_rfl) ⟨trivial, trivial, trivial, trivial, trivial⟩ ?_
  refine awl_nil ?_
  refine thenQ_n ?_
  refine withJoin (σ := Int) (fun s => (⟨36, [(3, [], .v (.c (.ptr 3 0))), (7, [], .v (.c (.p (.int .u32) s)))], [(3, [], .box [.pI n.1, .pI n.2.1, .p (.sl t3) n.2.2.1, .p (.int .u32) n.2.2.2.1, .p (.int .u32) n.2.2.2.2])]⟩ : St)) (fun s => VC64_k1 n K s) (fun out h => ?_) (fun rest1 => ?_)
  · have h : VC64_k1 n K out := h
    unfold VC64_k1 at h
    refine thenQ_n ?_
    refine aw_seq ?_
    refine aw_region ?_
    refine awl_runp 2 [33, 34] [] (ob := (True ∧ True ∧ True)) (st' := (⟨36, [(33, [], .v (.agg [.pI n.1, .pI n.2.1, .p (.sl t3) n.2.2.1, .p (.int .u32) n.2.2.2.1, .p (.int .u32) n.2.2.2.2])), (34, [], .v (.c (.p (.int .u32) out)))], []⟩ : St)) (by kernel_rfl) ⟨trivial, trivial, trivial⟩ ?_
    refine awl_callk (p := []) (l := [toV1 (.pr (.int .i64) (.pr (.int .i64) (.pr (.sl t3) (.pr (.int .u32) (.int .u32))))) n, toV1 (.int .u32) out]) (cl := []) false [.d (.pr (.int .i64) (.pr (.int .i64) (.pr (.sl t3) (.pr (.int .u32) (.int .u32))))), .d (.int .u32)] [35] [] (fun (ret35v : Int) => K ret35v) (fun ret35v => [toV1 (.int .u32) ret35v]) (fun ret35v => (⟨36, [(35, [], .v (.c (.p (.int .u32) ret35v)))], []⟩ : St)) (by kernel_rfl) rfl (by kernel_rfl) rfl (by kernel_rfl) Try.call63 (by kernel_rfl) (fun ret35v => by kernel_rfl) (fun e => by cases e) (fun hg => link63 n out _ h) (fun hg => noF hg) (fun ret35v h => ?_)
    have h : K ret35v := h
    refine awl_runp 1 [6] [] (ob := (True ∧ True)) (st' := (⟨36, [(6, [], .v (.c (.p (.int .u32) ret35v)))], []⟩ : St)) (by kernel_rfl) ⟨trivial, trivial⟩ ?_
    refine awl_nil ?_
    refine thenQ_n ?_
    refine aw_ret ?_
    exact retQ_r (σ := Int) (R := (fun y => [toV1 (.int .u32) y])) (ob := (True ∧ True)) ret35v (by kernel_rfl) ⟨trivial, trivial⟩ h
  · refine aw_block ?_
    refine aw_loop (σ := Int × Int) (fun s => (⟨36, [(1, [], .v (.c (.p (.int .u32) setv))), (2, [], .v (.c (.pI sv))), (3, [], .v (.c (.ptr 3 0))), (7, [], .v (.c (.p (.int .u32) s.1))), (11, [], .v (.c (.p (.sl t3) n.2.2.1))), (12, [], .v (.c (.pI (n.2.2.1.length : Int)))), (13, [], .v (.c (.pI s.2)))], [(3, [], .box [.pI n.1, .pI n.2.1, .p (.sl t3) n.2.2.1, .p (.int .u32) n.2.2.2.1, .p (.int .u32) n.2.2.2.2])]⟩ : St)) (fun s X => VC64_l1 n setv sv K s.1 s.2 X) (s0 := ((0 : Int), (0 : Int))) (fun s X1 h => ?_) h
    obtain ⟨out, v13⟩ := s
    have h : VC64_l1 n setv sv K out v13 X1 := h
    unfold VC64_l1 at h
    refine aw_seq ?_
    refine aw_region ?_
    refine awl_runp 1 [1, 2, 3, 7, 11, 12, 13, 14] [3] (ob := (True ∧ True)) (st' := (⟨36, [(1, [], .v (.c (.p (.int .u32) setv))), (2, [], .v (.c (.pI sv))), (3, [], .v (.c (.ptr 3 0))), (7, [], .v (.c (.p (.int .u32) out))), (11, [], .v (.c (.p (.sl t3) n.2.2.1))), (12, [], .v (.c (.pI (n.2.2.1.length : Int)))), (13, [], .v (.c (.pI v13))), (14, [], .v (.c (.pB (decide (v13 < (n.2.2.1.length : Int))))))], [(3, [], .box [.pI n.1, .pI n.2.1, .p (.sl t3) n.2.2.1, .p (.int .u32) n.2.2.2.1, .p (.int .u32) n.2.2.2.2])]⟩ : St)) (by kernel_rfl) ⟨trivial, trivial⟩ ?_
    refine awl_nil ?_
    refine thenQ_n ?_
    refine aw_seq ?_
    refine aw_cond (b := (decide (v13 < (n.2.2.1.length : Int)))) (by kernel_rfl) (fun hb => ?_) (fun hb => ?_)
    · have h := h.1 hb
      refine aw_skip ?_
      refine thenQ_n ?_
      refine aw_seq ?_
      refine aw_block ?_
      refine aw_seq ?_
      refine aw_region ?_
      obtain ⟨o1, h⟩ := h
      refine awl_runp 4 [1, 2, 3, 7, 9, 11, 12, 13] [3, 9] (ob := (inIdx v13 n.2.2.1.length ∧ True ∧ True ∧ True ∧ True)) (st' := (⟨36, [(1, [], .v (.c (.p (.int .u32) setv))), (2, [], .v (.c (.pI sv))), (3, [], .v (.c (.ptr 3 0))), (7, [], .v (.c (.p (.int .u32) out))), (9, [], .v (.c (.ptr 9 0))), (11, [], .v (.c (.p (.sl t3) n.2.2.1))), (12, [], .v (.c (.pI (n.2.2.1.length : Int)))), (13, [], .v (.c (.pI v13)))], [(3, [], .box [.pI n.1, .pI n.2.1, .p (.sl t3) n.2.2.1, .p (.int .u32) n.2.2.2.1, .p (.int .u32) n.2.2.2.2]), (9, [], .box [.pI ((n.2.2.1.getD (v13).toNat z3).1), .pI ((n.2.2.1.getD (v13).toNat z3).2.1), .pI ((n.2.2.1.getD (v13).toNat z3).2.2)])]⟩ : St)) (by kernel_rfl) ⟨o1, trivial, trivial, trivial, trivial⟩ ?_
      refine awl_nil ?_
      refine thenQ_n ?_
      refine aw_seq ?_
      refine aw_region ?_
      refine awl_runp 8 [1, 2, 3, 7, 9, 11, 12, 13, 21, 22, 24] [3, 9] (ob := (True ∧ True ∧ True ∧ True ∧ True ∧ ((decide ((n.2.2.1.getD (v13).toNat z3).2.1 = sv)) = true → True) ∧ ((decide ((n.2.2.1.getD (v13).toNat z3).2.1 = sv)) = true → True) ∧ ((decide ((n.2.2.1.getD (v13).toNat z3).2.1 = sv)) = true → True) ∧ True)) (st' := (⟨36, [(1, [], .v (.c (.p (.int .u32) setv))), (2, [], .v (.c (.pI sv))), (3, [], .v (.c (.ptr 3 0))), (7, [], .v (.c (.p (.int .u32) out))), (9, [], .v (.c (.ptr 9 0))), (11, [], .v (.c (.p (.sl t3) n.2.2.1))), (12, [], .v (.c (.pI (n.2.2.1.length : Int)))), (13, [], .v (.c (.pI v13))), (21, [], .v (.c (.pB (decide ((n.2.2.1.getD (v13).toNat z3).2.1 = sv))))), (22, [(21, true)], .v (.c (.p (.int .u32) setv))), (24, [(21, true)], .v (.c (.pI ((n.2.2.1.getD (v13).toNat z3).1))))], [(3, [], .box [.pI n.1, .pI n.2.1, .p (.sl t3) n.2.2.1, .p (.int .u32) n.2.2.2.1, .p (.int .u32) n.2.2.2.2]), (9, [], .box [.pI ((n.2.2.1.getD (v13).toNat z3).1), .pI ((n.2.2.1.getD (v13).toNat z3).2.1), .pI ((n.2.2.1.getD (v13).toNat z3).2.2)])]⟩ : St)) (by kernel_rfl) ⟨trivial, trivial, trivial, trivial, trivial, (fun _ => trivial), (fun _ => trivial), (fun _ => trivial), trivial⟩ ?_
      refine awl_callk (p := [(21, true)]) (l := [toV1 (.int .u32) setv, toV1 (.int .i64) ((n.2.2.1.getD (v13).toNat z3).1)]) (cl := []) false [.d (.int .u32), .d (.int .i64)] [1, 2, 3, 7, 9, 11, 12, 13, 21, 25] [3, 9] (fun (ret25v : Bool) => ((((decide ((n.2.2.1.getD (v13).toNat z3).2.1 = sv)) && ret25v) = true → (0 ≤ (n.2.2.1.getD (v13).toNat z3).2.2 ∧ VC64_k2 v13 X1 (bOr .u32 out (bShl .u32 (1 : Int) ((n.2.2.1.getD (v13).toNat z3).2.2))))) ∧ (((decide ((n.2.2.1.getD (v13).toNat z3).2.1 = sv)) && ret25v) = false → VC64_k2 v13 X1 out))) (fun ret25v => [toV1 .bool ret25v]) (fun ret25v => (⟨36, [(1, [], .v (.c (.p (.int .u32) setv))), (2, [], .v (.c (.pI sv))), (3, [], .v (.c (.ptr 3 0))), (7, [], .v (.c (.p (.int .u32) out))), (9, [], .v (.c (.ptr 9 0))), (11, [], .v (.c (.p (.sl t3) n.2.2.1))), (12, [], .v (.c (.pI (n.2.2.1.length : Int)))), (13, [], .v (.c (.pI v13))), (21, [], .v (.c (.pB (decide ((n.2.2.1.getD (v13).toNat z3).2.1 = sv))))), (25, [(21, true)], .v (.c (.pB ret25v)))], [(3, [], .box [.pI n.1, .pI n.2.1, .p (.sl t3) n.2.2.1, .p (.int .u32) n.2.2.2.1, .p (.int .u32) n.2.2.2.2]), (9, [], .box [.pI ((n.2.2.1.getD (v13).toNat z3).1), .pI ((n.2.2.1.getD (v13).toNat z3).2.1), .pI ((n.2.2.1.getD (v13).toNat z3).2.2)])]⟩ : St)) (by kernel_rfl) rfl (by kernel_rfl) rfl (by kernel_rfl) Try.call44 (by kernel_rfl) (fun ret25v => by kernel_rfl) (fun e => by cases e) (fun hg => link44 setv ((n.2.2.1.getD (v13).toNat z3).1) _ (by have := gcall_T h (show (decide ((n.2.2.1.getD (v13).toNat z3).2.1 = sv)) = true from hg); exact this)) (fun hg => ⟨false, by have := gcall_F h (show (decide ((n.2.2.1.getD (v13).toNat z3).2.1 = sv)) = false from hg); exact this⟩) (fun ret25v h => ?_)
      have h : ((((decide ((n.2.2.1.getD (v13).toNat z3).2.1 = sv)) && ret25v) = true → (0 ≤ (n.2.2.1.getD (v13).toNat z3).2.2 ∧ VC64_k2 v13 X1 (bOr .u32 out (bShl .u32 (1 : Int) ((n.2.2.1.getD (v13).toNat z3).2.2))))) ∧ (((decide ((n.2.2.1.getD (v13).toNat z3).2.1 = sv)) && ret25v) = false → VC64_k2 v13 X1 out)) := h
      refine awl_runp 1 [1, 2, 3, 7, 9, 11, 12, 13, 26] [3, 9] (ob := (True ∧ True)) (st' := (⟨36, [(1, [], .v (.c (.p (.int .u32) setv))), (2, [], .v (.c (.pI sv))), (3, [], .v (.c (.ptr 3 0))), (7, [], .v (.c (.p (.int .u32) out))), (9, [], .v (.c (.ptr 9 0))), (11, [], .v (.c (.p (.sl t3) n.2.2.1))), (12, [], .v (.c (.pI (n.2.2.1.length : Int)))), (13, [], .v (.c (.pI v13))), (26, [], .v (.c (.pB ((decide ((n.2.2.1.getD (v13).toNat z3).2.1 = sv)) && ret25v))))], [(3, [], .box [.pI n.1, .pI n.2.1, .p (.sl t3) n.2.2.1, .p (.int .u32) n.2.2.2.1, .p (.int .u32) n.2.2.2.2]), (9, [], .box [.pI ((n.2.2.1.getD (v13).toNat z3).1), .pI ((n.2.2.1.getD (v13).toNat z3).2.1), .pI ((n.2.2.1.getD (v13).toNat z3).2.2)])]⟩ : St)) (by kernel_rfl) ⟨trivial, trivial⟩ ?_
      refine awl_nil ?_
      refine thenQ_n ?_
      refine withJoin (σ := Int) (fun s => (⟨36, [(1, [], .v (.c (.p (.int .u32) setv))), (2, [], .v (.c (.pI sv))), (3, [], .v (.c (.ptr 3 0))), (7, [], .v (.c (.p (.int .u32) s))), (11, [], .v (.c (.p (.sl t3) n.2.2.1))), (12, [], .v (.c (.pI (n.2.2.1.length : Int)))), (13, [], .v (.c (.pI v13)))], [(3, [], .box [.pI n.1, .pI n.2.1, .p (.sl t3) n.2.2.1, .p (.int .u32) n.2.2.2.1, .p (.int .u32) n.2.2.2.2])]⟩ : St)) (fun s => VC64_k2 v13 X1 s) (fun out2 h => ?_) (fun rest2 => ?_)
      · have h : VC64_k2 v13 X1 out2 := h
        unfold VC64_k2 at h
        refine blockQ_n ?_
        refine thenQ_n ?_
        refine aw_region ?_
        obtain ⟨o1, h⟩ := h
        refine awl_runp 2 [1, 2, 3, 7, 11, 12, 13] [3] (ob := (InR (v13 + (1 : Int)) ∧ True ∧ True)) (st' := (⟨36, [(1, [], .v (.c (.p (.int .u32) setv))), (2, [], .v (.c (.pI sv))), (3, [], .v (.c (.ptr 3 0))), (7, [], .v (.c (.p (.int .u32) out2))), (11, [], .v (.c (.p (.sl t3) n.2.2.1))), (12, [], .v (.c (.pI (n.2.2.1.length : Int)))), (13, [], .v (.c (.pI (v13 + (1 : Int)))))], [(3, [], .box [.pI n.1, .pI n.2.1, .p (.sl t3) n.2.2.1, .p (.int .u32) n.2.2.2.1, .p (.int .u32) n.2.2.2.2])]⟩ : St)) (by kernel_rfl) ⟨o1, trivial, trivial⟩ ?_
        refine awl_nil ?_
        exact thenQ_n ⟨(out2, (v13 + (1 : Int))), rfl, h⟩
      · refine aw_cond (b := ((decide ((n.2.2.1.getD (v13).toNat z3).2.1 = sv)) && ret25v)) (by kernel_rfl) (fun hb => ?_) (fun hb => ?_)
        · have h := h.1 hb
          refine aw_region ?_
          obtain ⟨o1, h⟩ := h
          refine awl_runp 6 [1, 2, 3, 7, 11, 12, 13] [3] (ob := (True ∧ True ∧ True ∧ 0 ≤ (n.2.2.1.getD (v13).toNat z3).2.2 ∧ True ∧ True ∧ True)) (st' := (⟨36, [(1, [], .v (.c (.p (.int .u32) setv))), (2, [], .v (.c (.pI sv))), (3, [], .v (.c (.ptr 3 0))), (7, [], .v (.c (.p (.int .u32) (bOr .u32 out (bShl .u32 (1 : Int) ((n.2.2.1.getD (v13).toNat z3).2.2)))))), (11, [], .v (.c (.p (.sl t3) n.2.2.1))), (12, [], .v (.c (.pI (n.2.2.1.length : Int)))), (13, [], .v (.c (.pI v13)))], [(3, [], .box [.pI n.1, .pI n.2.1, .p (.sl t3) n.2.2.1, .p (.int .u32) n.2.2.2.1, .p (.int .u32) n.2.2.2.2])]⟩ : St)) (by kernel_rfl) ⟨trivial, trivial, trivial, o1, trivial, trivial, trivial⟩ ?_
          refine awl_nil ?_
          exact rest2 (bOr .u32 out (bShl .u32 (1 : Int) ((n.2.2.1.getD (v13).toNat z3).2.2))) h
        · have h := h.2 hb
          refine aw_conv [.prune [1, 2, 3, 7, 11, 12, 13] [3]] (st' := (⟨36, [(1, [], .v (.c (.p (.int .u32) setv))), (2, [], .v (.c (.pI sv))), (3, [], .v (.c (.ptr 3 0))), (7, [], .v (.c (.p (.int .u32) out))), (11, [], .v (.c (.p (.sl t3) n.2.2.1))), (12, [], .v (.c (.pI (n.2.2.1.length : Int)))), (13, [], .v (.c (.pI v13)))], [(3, [], .box [.pI n.1, .pI n.2.1, .p (.sl t3) n.2.2.1, .p (.int .u32) n.2.2.2.1, .p (.int .u32) n.2.2.2.2])]⟩ : St)) (by kernel_rfl) ?_
          refine aw_skip ?_
          exact rest2 out h
    · have h := h.2 hb
      refine aw_conv [.prune [3, 7] [3]] (st' := (⟨36, [(3, [], .v (.c (.ptr 3 0))), (7, [], .v (.c (.p (.int .u32) out)))], [(3, [], .box [.pI n.1, .pI n.2.1, .p (.sl t3) n.2.2.1, .p (.int .u32) n.2.2.2.1, .p (.int .u32) n.2.2.2.2])]⟩ : St)) (by kernel_rfl) ?_
      refine aw_exit ?_
      refine thenQ_x ?_
      refine thenQ_x ?_
      refine blockQ_hit ?_
      exact rest1 out h

-- coppicer/net.Run
def VC32_k1 (n : (Int × (Int × (LN × (Int × Int))))) (K : Int × Bool × Int → Prop) (setv : Int) : Prop :=
  K (setv, (!decide ((bAnd .u32 setv n.2.2.2.2) = (0 : Int))), (0 : Int))

def VC32_l1 (n : (Int × (Int × (LN × (Int × Int))))) (w : LI) (K : Int × Bool × Int → Prop) (setv : Int) (v30 : Int) (X1 : Int × Int → Prop) : Prop :=
  (((decide (v30 < (w.length : Int))) = true → (inIdx v30 w.length ∧ VC64 n setv (w.getD (v30).toNat (0 : Int)) (fun (ret37v : Int) => (InR (v30 + (1 : Int)) ∧ X1 (ret37v, (v30 + (1 : Int))))))) ∧ ((decide (v30 < (w.length : Int))) = false → VC32_k1 n K setv))

def VC32 (n : (Int × (Int × (LN × (Int × Int))))) (w : LI) (K : Int × Bool × Int → Prop) : Prop :=
  VC62 n (fun (ret13v : Int) => (((!decide (ret13v = (0 : Int))) = true → K ((0 : Int), false, ret13v)) ∧ ((!decide (ret13v = (0 : Int))) = false → VC40 n.2.1 w (fun (ret20v : Int) => (((!decide (ret20v = (0 : Int))) = true → K ((0 : Int), false, ret20v)) ∧ ((!decide (ret20v = (0 : Int))) = false → VC63 n n.2.2.2.1 (fun (ret27v : Int) => Loop (σ := Int × Int) (fun s X => VC32_l1 n w K s.1 s.2 X) (ret27v, (0 : Int)))))))))

set_option maxHeartbeats 4000000 in
theorem link32 (n : (Int × (Int × (LN × (Int × Int))))) (w : LI) (K : Int × Bool × Int → Prop) (h : VC32 n w K) : ACalls Try.prog 32 [toV1 (.pr (.int .i64) (.pr (.int .i64) (.pr (.sl t3) (.pr (.int .u32) (.int .u32))))) n, toV1 (.sl (.int .i64)) w] (fun res => ∃ y, res = (fun y => [toV1 (.int .u32) y.1, toV1 .bool y.2.1, toV1 (.int .i64) y.2.2]) y ∧ K y) := by
  refine acalls_of_aw [(.int .u32), .bool, (.int .i64)] [.t 4, .t 5, .t 6] Try.func32 rfl rfl rfl ?_
  unfold VC32 at h
  refine aw_seq ?_
  refine aw_region ?_
  refine awl_runp 4 [1, 2] [2] (ob := (True ∧ True ∧ True ∧ True ∧ True)) (st' := (⟨45, [(1, [], .v (.c (.pS w))), (2, [], .v (.c (.ptr 2 0)))], [(2, [], .box [.pI n.1, .pI n.2.1, .p (.sl t3) n.2.2.1, .p (.int .u32) n.2.2.2.1, .p (.int .u32) n.2.2.2.2])]⟩ : St)) (by kernel_rfl) ⟨trivial, trivial, trivial, trivial, trivial⟩ ?_
  refine awl_nil ?_
  refine thenQ_n ?_
  refine aw_seq ?_
  refine aw_seq ?_
  refine aw_region ?_
  refine awl_runp 1 [1, 2, 12] [2] (ob := (True ∧ True)) (st' := (⟨45, [(1, [], .v (.c (.pS w))), (2, [], .v (.c (.ptr 2 0))), (12, [], .v (.agg [.pI n.1, .pI n.2.1, .p (.sl t3) n.2.2.1, .p (.int .u32) n.2.2.2.1, .p (.int .u32) n.2.2.2.2]))], [(2, [], .box [.pI n.1, .pI n.2.1, .p (.sl t3) n.2.2.1, .p (.int .u32) n.2.2.2.1, .p (.int .u32) n.2.2.2.2])]⟩ : St)) (by kernel_rfl) ⟨trivial, trivial⟩ ?_
  refine awl_callk (p := []) (l := [toV1 (.pr (.int .i64) (.pr (.int .i64) (.pr (.sl t3) (.pr (.int .u32) (.int .u32))))) n]) (cl := []) false [.d (.pr (.int .i64) (.pr (.int .i64) (.pr (.sl t3) (.pr (.int .u32) (.int .u32)))))] [1, 2, 13] [2] (fun (ret13v : Int) => (((!decide (ret13v = (0 : Int))) = true → K ((0 : Int), false, ret13v)) ∧ ((!decide (ret13v = (0 : Int))) = false → VC40 n.2.1 w (fun (ret20v : Int) => (((!decide (ret20v = (0 : Int))) = true → K ((0 : Int), false, ret20v)) ∧ ((!decide (ret20v = (0 : Int))) = false → VC63 n n.2.2.2.1 (fun (ret27v : Int) => Loop (σ := Int × Int) (fun s X => VC32_l1 n w K s.1 s.2 X) (ret27v, (0 : Int))))))))) (fun ret13v => [toV1 (.int .i64) ret13v]) (fun ret13v => (⟨45, [(1, [], .v (.c (.pS w))), (2, [], .v (.c (.ptr 2 0))), (13, [], .v (.c (.pI ret13v)))], [(2, [], .box [.pI n.1, .pI n.2.1, .p (.sl t3) n.2.2.1, .p (.int .u32) n.2.2.2.1, .p (.int .u32) n.2.2.2.2])]⟩ : St)) (by kernel_rfl) rfl (by kernel_rfl) rfl (by kernel_rfl) Try.call62 (by kernel_rfl) (fun ret13v => by kernel_rfl) (fun e => by cases e) (fun hg => link62 n _ h) (fun hg => noF hg) (fun ret13v h => ?_)
  have h : (((!decide (ret13v = (0 : Int))) = true → K ((0 : Int), false, ret13v)) ∧ ((!decide (ret13v = (0 : Int))) = false → VC40 n.2.1 w (fun (ret20v : Int) => (((!decide (ret20v = (0 : Int))) = true → K ((0 : Int), false, ret20v)) ∧ ((!decide (ret20v = (0 : Int))) = false → VC63 n n.2.2.2.1 (fun (ret27v : Int) => Loop (σ := Int × Int) (fun s X => VC32_l1 n w K s.1 s.2 X) (ret27v, (0 : Int)))))))) := h
  refine awl_runp 1 [1, 2, 7] [2] (ob := (True ∧ True)) (st' := (⟨45, [(1, [], .v (.c (.pS w))), (2, [], .v (.c (.ptr 2 0))), (7, [], .v (.c (.pI ret13v)))], [(2, [], .box [.pI n.1, .pI n.2.1, .p (.sl t3) n.2.2.1, .p (.int .u32) n.2.2.2.1, .p (.int .u32) n.2.2.2.2])]⟩ : St)) (by kernel_rfl) ⟨trivial, trivial⟩ ?_
  refine awl_nil ?_
  refine thenQ_n ?_
  refine aw_seq ?_
  refine aw_region ?_
  refine awl_runp 2 [1, 2, 7, 15] [2] (ob := (True ∧ True ∧ True)) (st' := (⟨45, [(1, [], .v (.c (.pS w))), (2, [], .v (.c (.ptr 2 0))), (7, [], .v (.c (.pI ret13v))), (15, [], .v (.c (.pB (!decide (ret13v = (0 : Int))))))], [(2, [], .box [.pI n.1, .pI n.2.1, .p (.sl t3) n.2.2.1, .p (.int .u32) n.2.2.2.1, .p (.int .u32) n.2.2.2.2])]⟩ : St)) (by kernel_rfl) ⟨trivial, trivial, trivial⟩ ?_
  refine awl_nil ?_
  refine thenQ_n ?_
  refine aw_cond (b := (!decide (ret13v = (0 : Int)))) (by kernel_rfl) (fun hb => ?_) (fun hb => ?_)
  · have h := h.1 hb
    refine aw_seq ?_
    refine aw_region ?_
    refine awl_runp 4 [4, 5, 6] [] (ob := (True ∧ True ∧ True ∧ True ∧ True)) (st' := (⟨45, [(4, [], .v (.c (.p (.int .u32) (0 : Int)))), (5, [], .v (.c (.pB false))), (6, [], .v (.c (.pI ret13v)))], []⟩ : St)) (by kernel_rfl) ⟨trivial, trivial, trivial, trivial, trivial⟩ ?_
    refine awl_nil ?_
    refine thenQ_n ?_
    refine aw_ret ?_
    refine thenQ_r ?_
    exact retQ_r (σ := Int × Bool × Int) (R := (fun y => [toV1 (.int .u32) y.1, toV1 .bool y.2.1, toV1 (.int .i64) y.2.2])) (ob := (True ∧ True ∧ True ∧ True)) ((0 : Int), false, ret13v) (by kernel_rfl) ⟨trivial, trivial, trivial, trivial⟩ h
  · have h := h.2 hb
    refine aw_skip ?_
    refine thenQ_n ?_
    refine aw_seq ?_
    refine aw_seq ?_
    refine aw_region ?_
    refine awl_runp 3 [1, 2, 18, 19] [2] (ob := (True ∧ True ∧ True ∧ True)) (st' := (⟨45, [(1, [], .v (.c (.pS w))), (2, [], .v (.c (.ptr 2 0))), (18, [], .v (.c (.pI n.2.1))), (19, [], .v (.c (.pS w)))], [(2, [], .box [.pI n.1, .pI n.2.1, .p (.sl t3) n.2.2.1, .p (.int .u32) n.2.2.2.1, .p (.int .u32) n.2.2.2.2])]⟩ : St)) (by kernel_rfl) ⟨trivial, trivial, trivial, trivial⟩ ?_
    refine awl_callk (p := []) (l := [toV1 (.int .i64) n.2.1, toV1 (.sl (.int .i64)) w]) (cl := []) false [.d (.int .i64), .d (.sl (.int .i64))] [1, 2, 20] [2] (fun (ret20v : Int) => (((!decide (ret20v = (0 : Int))) = true → K ((0 : Int), false, ret20v)) ∧ ((!decide (ret20v = (0 : Int))) = false → VC63 n n.2.2.2.1 (fun (ret27v : Int) => Loop (σ := Int × Int) (fun s X => VC32_l1 n w K s.1 s.2 X) (ret27v, (0 : Int)))))) (fun ret20v => [toV1 (.int .i64) ret20v]) (fun ret20v => (⟨45, [(1, [], .v (.c (.pS w))), (2, [], .v (.c (.ptr 2 0))), (20, [], .v (.c (.pI ret20v)))], [(2, [], .box [.pI n.1, .pI n.2.1, .p (.sl t3) n.2.2.1, .p (.int .u32) n.2.2.2.1, .p (.int .u32) n.2.2.2.2])]⟩ : St)) (by kernel_rfl) rfl (by kernel_rfl) rfl (by kernel_rfl) Try.call40 (by kernel_rfl) (fun ret20v => by kernel_rfl) (fun e => by cases e) (fun hg => link40 n.2.1 w _ h) (fun hg => noF hg) (fun ret20v h => ?_)
    have h : (((!decide (ret20v = (0 : Int))) = true → K ((0 : Int), false, ret20v)) ∧ ((!decide (ret20v = (0 : Int))) = false → VC63 n n.2.2.2.1 (fun (ret27v : Int) => Loop (σ := Int × Int) (fun s X => VC32_l1 n w K s.1 s.2 X) (ret27v, (0 : Int))))) := h
    refine awl_runp 1 [1, 2, 8] [2] (ob := (True ∧ True)) (st' := (⟨45, [(1, [], .v (.c (.pS w))), (2, [], .v (.c (.ptr 2 0))), (8, [], .v (.c (.pI ret20v)))], [(2, [], .box [.pI n.1, .pI n.2.1, .p (.sl t3) n.2.2.1, .p (.int .u32) n.2.2.2.1, .p (.int .u32) n.2.2.2.2])]⟩ : St)) (by kernel_rfl) ⟨trivial, trivial⟩ ?_
    refine awl_nil ?_
    refine thenQ_n ?_
    refine aw_seq ?_
    refine aw_region ?_
    refine awl_runp 2 [1, 2, 8, 22] [2] (ob := (True ∧ True ∧ True)) (st' := (⟨45, [(1, [], .v (.c (.pS w))), (2, [], .v (.c (.ptr 2 0))), (8, [], .v (.c (.pI ret20v))), (22, [], .v (.c (.pB (!decide (ret20v = (0 : Int))))))], [(2, [], .box [.pI n.1, .pI n.2.1, .p (.sl t3) n.2.2.1, .p (.int .u32) n.2.2.2.1, .p (.int .u32) n.2.2.2.2])]⟩ : St)) (by kernel_rfl) ⟨trivial, trivial, trivial⟩ ?_
    refine awl_nil ?_
    refine thenQ_n ?_
    refine aw_cond (b := (!decide (ret20v = (0 : Int)))) (by kernel_rfl) (fun hb => ?_) (fun hb => ?_)
    · have h := h.1 hb
      refine aw_seq ?_
      refine aw_region ?_
      refine awl_runp 4 [4, 5, 6] [] (ob := (True ∧ True ∧ True ∧ True ∧ True)) (st' := (⟨45, [(4, [], .v (.c (.p (.int .u32) (0 : Int)))), (5, [], .v (.c (.pB false))), (6, [], .v (.c (.pI ret20v)))], []⟩ : St)) (by kernel_rfl) ⟨trivial, trivial, trivial, trivial, trivial⟩ ?_
      refine awl_nil ?_
      refine thenQ_n ?_
      refine aw_ret ?_
      refine thenQ_r ?_
      exact retQ_r (σ := Int × Bool × Int) (R := (fun y => [toV1 (.int .u32) y.1, toV1 .bool y.2.1, toV1 (.int .i64) y.2.2])) (ob := (True ∧ True ∧ True ∧ True)) ((0 : Int), false, ret20v) (by kernel_rfl) ⟨trivial, trivial, trivial, trivial⟩ h
    · have h := h.2 hb
      refine aw_skip ?_
      refine thenQ_n ?_
      refine aw_seq ?_
      refine aw_region ?_
      refine awl_runp 3 [1, 2, 24, 26] [2] (ob := (True ∧ True ∧ True ∧ True)) (st' := (⟨45, [(1, [], .v (.c (.pS w))), (2, [], .v (.c (.ptr 2 0))), (24, [], .v (.agg [.pI n.1, .pI n.2.1, .p (.sl t3) n.2.2.1, .p (.int .u32) n.2.2.2.1, .p (.int .u32) n.2.2.2.2])), (26, [], .v (.c (.p (.int .u32) n.2.2.2.1)))], [(2, [], .box [.pI n.1, .pI n.2.1, .p (.sl t3) n.2.2.1, .p (.int .u32) n.2.2.2.1, .p (.int .u32) n.2.2.2.2])]⟩ : St)) (by kernel_rfl) ⟨trivial, trivial, trivial, trivial⟩ ?_
      refine awl_callk (p := []) (l := [toV1 (.pr (.int .i64) (.pr (.int .i64) (.pr (.sl t3) (.pr (.int .u32) (.int .u32))))) n, toV1 (.int .u32) n.2.2.2.1]) (cl := []) false [.d (.pr (.int .i64) (.pr (.int .i64) (.pr (.sl t3) (.pr (.int .u32) (.int .u32))))), .d (.int .u32)] [1, 2, 27] [2] (fun (ret27v : Int) => Loop (σ := Int × Int) (fun s X => VC32_l1 n w K s.1 s.2 X) (ret27v, (0 : Int))) (fun ret27v => [toV1 (.int .u32) ret27v]) (fun ret27v => (⟨45, [(1, [], .v (.c (.pS w))), (2, [], .v (.c (.ptr 2 0))), (27, [], .v (.c (.p (.int .u32) ret27v)))], [(2, [], .box [.pI n.1, .pI n.2.1, .p (.sl t3) n.2.2.1, .p (.int .u32) n.2.2.2.1, .p (.int .u32) n.2.2.2.2])]⟩ : St)) (by kernel_rfl) rfl (by kernel_rfl) rfl (by kernel_rfl) Try.call63 (by kernel_rfl) (fun ret27v => by kernel_rfl) (fun e => by cases e) (fun hg => link63 n n.2.2.2.1 _ h) (fun hg => noF hg) (fun ret27v h => ?_)
      have h : Loop (σ := Int × Int) (fun s X => VC32_l1 n w K s.1 s.2 X) (ret27v, (0 : Int)) := h
      refine awl_runp 1 [1, 2, 9] [2] (ob := (True ∧ True)) (st' := (⟨45, [(1, [], .v (.c (.pS w))), (2, [], .v (.c (.ptr 2 0))), (9, [], .v (.c (.p (.int .u32) ret27v)))], [(2, [], .box [.pI n.1, .pI n.2.1, .p (.sl t3) n.2.2.1, .p (.int .u32) n.2.2.2.1, .p (.int .u32) n.2.2.2.2])]⟩ : St)) (by kernel_rfl) ⟨trivial, trivial⟩ ?_
      refine awl_nil ?_
      refine thenQ_n ?_
      refine aw_seq ?_
      refine aw_seq ?_
      refine aw_region ?_
      refine awl_runp 3 [2, 9, 28, 29, 30] [2] (ob := (True ∧ True ∧ True ∧ True)) (st' := (⟨45, [(2, [], .v (.c (.ptr 2 0))), (9, [], .v (.c (.p (.int .u32) ret27v))), (28, [], .v (.c (.pS w))), (29, [], .v (.c (.pI (w.length : Int)))), (30, [], .v (.c (.pI (0 : Int))))], [(2, [], .box [.pI n.1, .pI n.2.1, .p (.sl t3) n.2.2.1, .p (.int .u32) n.2.2.2.1, .p (.int .u32) n.2.2.2.2])]⟩ : St)) (by kernel_rfl) ⟨trivial, trivial, trivial, trivial⟩ ?_
      refine awl_nil ?_
      refine thenQ_n ?_
      refine withJoin (σ := Int) (fun s => (⟨45, [(2, [], .v (.c (.ptr 2 0))), (9, [], .v (.c (.p (.int .u32) s)))], [(2, [], .box [.pI n.1, .pI n.2.1, .p (.sl t3) n.2.2.1, .p (.int .u32) n.2.2.2.1, .p (.int .u32) n.2.2.2.2])]⟩ : St)) (fun s => VC32_k1 n K s) (fun setv h => ?_) (fun rest1 => ?_)
      · have h : VC32_k1 n K setv := h
        unfold VC32_k1 at h
        refine thenQ_n ?_
        refine aw_seq ?_
        refine awd_begin [] (by kernel_rfl) ?_
        refine awd_runp (by kernel_rfl) [0, 1, 2, 3, 4, 5, 6, 7, 8] [4, 5, 6] [] (ob := (True ∧ True ∧ True ∧ True ∧ True ∧ True ∧ True ∧ True ∧ True ∧ True)) (done' := [8, 7, 6, 5, 4, 3, 2, 1, 0]) (st' := (⟨45, [(4, [], .v (.c (.p (.int .u32) setv))), (5, [], .v (.c (.pB (!decide ((bAnd .u32 setv n.2.2.2.2) = (0 : Int)))))), (6, [], .v (.c (.pI (0 : Int))))], []⟩ : St)) (by kernel_rfl) ⟨trivial, trivial, trivial, trivial, trivial, trivial, trivial, trivial, trivial, trivial⟩ ?_
        refine awd_done (by kernel_rfl) ?_
        refine thenQ_n ?_
        refine aw_ret ?_
        exact retQ_r (σ := Int × Bool × Int) (R := (fun y => [toV1 (.int .u32) y.1, toV1 .bool y.2.1, toV1 (.int .i64) y.2.2])) (ob := (True ∧ True ∧ True ∧ True)) (setv, (!decide ((bAnd .u32 setv n.2.2.2.2) = (0 : Int))), (0 : Int)) (by kernel_rfl) ⟨trivial, trivial, trivial, trivial⟩ h
      · refine aw_block ?_
        refine aw_loop (σ := Int × Int) (fun s => (⟨45, [(2, [], .v (.c (.ptr 2 0))), (9, [], .v (.c (.p (.int .u32) s.1))), (28, [], .v (.c (.pS w))), (29, [], .v (.c (.pI (w.length : Int)))), (30, [], .v (.c (.pI s.2)))], [(2, [], .box [.pI n.1, .pI n.2.1, .p (.sl t3) n.2.2.1, .p (.int .u32) n.2.2.2.1, .p (.int .u32) n.2.2.2.2])]⟩ : St)) (fun s X => VC32_l1 n w K s.1 s.2 X) (s0 := (ret27v, (0 : Int))) (fun s X1 h => ?_) h
        obtain ⟨setv, v30⟩ := s
        have h : VC32_l1 n w K setv v30 X1 := h
        unfold VC32_l1 at h
        refine aw_seq ?_
        refine aw_region ?_
        refine awl_runp 1 [2, 9, 28, 29, 30, 31] [2] (ob := (True ∧ True)) (st' := (⟨45, [(2, [], .v (.c (.ptr 2 0))), (9, [], .v (.c (.p (.int .u32) setv))), (28, [], .v (.c (.pS w))), (29, [], .v (.c (.pI (w.length : Int)))), (30, [], .v (.c (.pI v30))), (31, [], .v (.c (.pB (decide (v30 < (w.length : Int))))))], [(2, [], .box [.pI n.1, .pI n.2.1, .p (.sl t3) n.2.2.1, .p (.int .u32) n.2.2.2.1, .p (.int .u32) n.2.2.2.2])]⟩ : St)) (by kernel_rfl) ⟨trivial, trivial⟩ ?_
        refine awl_nil ?_
        refine thenQ_n ?_
        refine aw_seq ?_
        refine aw_cond (b := (decide (v30 < (w.length : Int)))) (by kernel_rfl) (fun hb => ?_) (fun hb => ?_)
        · have h := h.1 hb
          refine aw_skip ?_
          refine thenQ_n ?_
          refine aw_seq ?_
          refine aw_block ?_
          refine aw_seq ?_
          refine aw_region ?_
          obtain ⟨o1, h⟩ := h
          refine awl_runp 3 [2, 9, 11, 28, 29, 30] [2] (ob := (inIdx v30 w.length ∧ True ∧ True ∧ True)) (st' := (⟨45, [(2, [], .v (.c (.ptr 2 0))), (9, [], .v (.c (.p (.int .u32) setv))), (11, [], .v (.c (.pI (w.getD (v30).toNat (0 : Int))))), (28, [], .v (.c (.pS w))), (29, [], .v (.c (.pI (w.length : Int)))), (30, [], .v (.c (.pI v30)))], [(2, [], .box [.pI n.1, .pI n.2.1, .p (.sl t3) n.2.2.1, .p (.int .u32) n.2.2.2.1, .p (.int .u32) n.2.2.2.2])]⟩ : St)) (by kernel_rfl) ⟨o1, trivial, trivial, trivial⟩ ?_
          refine awl_nil ?_
          refine thenQ_n ?_
          refine aw_region ?_
          refine awl_runp 3 [2, 28, 29, 30, 34, 35, 36] [2] (ob := (True ∧ True ∧ True ∧ True)) (st' := (⟨45, [(2, [], .v (.c (.ptr 2 0))), (28, [], .v (.c (.pS w))), (29, [], .v (.c (.pI (w.length : Int)))), (30, [], .v (.c (.pI v30))), (34, [], .v (.agg [.pI n.1, .pI n.2.1, .p (.sl t3) n.2.2.1, .p (.int .u32) n.2.2.2.1, .p (.int .u32) n.2.2.2.2])), (35, [], .v (.c (.p (.int .u32) setv))), (36, [], .v (.c (.pI (w.getD (v30).toNat (0 : Int)))))], [(2, [], .box [.pI n.1, .pI n.2.1, .p (.sl t3) n.2.2.1, .p (.int .u32) n.2.2.2.1, .p (.int .u32) n.2.2.2.2])]⟩ : St)) (by kernel_rfl) ⟨trivial, trivial, trivial, trivial⟩ ?_
          refine awl_callk (p := []) (l := [toV1 (.pr (.int .i64) (.pr (.int .i64) (.pr (.sl t3) (.pr (.int .u32) (.int .u32))))) n, toV1 (.int .u32) setv, toV1 (.int .i64) (w.getD (v30).toNat (0 : Int))]) (cl := []) false [.d (.pr (.int .i64) (.pr (.int .i64) (.pr (.sl t3) (.pr (.int .u32) (.int .u32))))), .d (.int .u32), .d (.int .i64)] [2, 28, 29, 30, 37] [2] (fun (ret37v : Int) => (InR (v30 + (1 : Int)) ∧ X1 (ret37v, (v30 + (1 : Int))))) (fun ret37v => [toV1 (.int .u32) ret37v]) (fun ret37v => (⟨45, [(2, [], .v (.c (.ptr 2 0))), (28, [], .v (.c (.pS w))), (29, [], .v (.c (.pI (w.length : Int)))), (30, [], .v (.c (.pI v30))), (37, [], .v (.c (.p (.int .u32) ret37v)))], [(2, [], .box [.pI n.1, .pI n.2.1, .p (.sl t3) n.2.2.1, .p (.int .u32) n.2.2.2.1, .p (.int .u32) n.2.2.2.2])]⟩ : St)) (by kernel_rfl) rfl (by kernel_rfl) rfl (by kernel_rfl) Try.call64 (by kernel_rfl) (fun ret37v => by kernel_rfl) (fun e => by cases e) (fun hg => link64 n setv (w.getD (v30).toNat (0 : Int)) _ h) (fun hg => noF hg) (fun ret37v h => ?_)
          have h : (InR (v30 + (1 : Int)) ∧ X1 (ret37v, (v30 + (1 : Int)))) := h
          refine awl_runp 1 [2, 9, 28, 29, 30] [2] (ob := (True ∧ True)) (st' := (⟨45, [(2, [], .v (.c (.ptr 2 0))), (9, [], .v (.c (.p (.int .u32) ret37v))), (28, [], .v (.c (.pS w))), (29, [], .v (.c (.pI (w.length : Int)))), (30, [], .v (.c (.pI v30)))], [(2, [], .box [.pI n.1, .pI n.2.1, .p (.sl t3) n.2.2.1, .p (.int .u32) n.2.2.2.1, .p (.int .u32) n.2.2.2.2])]⟩ : St)) (by kernel_rfl) ⟨trivial, trivial⟩ ?_
          refine awl_nil ?_
          refine blockQ_n ?_
          refine thenQ_n ?_
          refine aw_region ?_
          obtain ⟨o1, h⟩ := h
          refine awl_runp 2 [2, 9, 28, 29, 30] [2] (ob := (InR (v30 + (1 : Int)) ∧ True ∧ True)) (st' := (⟨45, [(2, [], .v (.c (.ptr 2 0))), (9, [], .v (.c (.p (.int .u32) ret37v))), (28, [], .v (.c (.pS w))), (29, [], .v (.c (.pI (w.length : Int)))), (30, [], .v (.c (.pI (v30 + (1 : Int)))))], [(2, [], .box [.pI n.1, .pI n.2.1, .p (.sl t3) n.2.2.1, .p (.int .u32) n.2.2.2.1, .p (.int .u32) n.2.2.2.2])]⟩ : St)) (by kernel_rfl) ⟨o1, trivial, trivial⟩ ?_
          refine awl_nil ?_
          exact thenQ_n ⟨(ret37v, (v30 + (1 : Int))), rfl, h⟩
        · have h := h.2 hb
          refine aw_conv [.prune [2, 9] [2]] (st' := (⟨45, [(2, [], .v (.c (.ptr 2 0))), (9, [], .v (.c (.p (.int .u32) setv)))], [(2, [], .box [.pI n.1, .pI n.2.1, .p (.sl t3) n.2.2.1, .p (.int .u32) n.2.2.2.1, .p (.int .u32) n.2.2.2.2])]⟩ : St)) (by kernel_rfl) ?_
          refine aw_exit ?_
          refine thenQ_x ?_
          refine thenQ_x ?_
          refine blockQ_hit ?_
          exact rest1 setv h

-- coppicer/coppicerkeep.SpotTakes
def VC10_k1 (w : LI) (K : Bool → Prop) (ret19v : (Int × (Int × (LN × (Int × Int)))) × Int) (ret26v : Bool × Int) : Prop :=
  VC32 ret19v.1 w (fun (ret61v : Int × Bool × Int) => K ((decide (ret61v.2.2 = (0 : Int))) && (ret26v.1 == ret61v.2.1)))

def VC10_l1 (w : LI) (K : Bool → Prop) (ret19v : (Int × (Int × (LN × (Int × Int)))) × Int) (ret26v : Bool × Int) (v50 : Int) (X1 : Int → Prop) : Prop :=
  (((decide (v50 < (ret19v.1.2.2.1.length : Int))) = true → (inIdx v50 ret19v.1.2.2.1.length ∧ (((decide ((ret19v.1.2.2.1.getD (v50).toNat z3).2.1 < (0 : Int))) = true → K false) ∧ ((decide ((ret19v.1.2.2.1.getD (v50).toNat z3).2.1 < (0 : Int))) = false → (InR (v50 + (1 : Int)) ∧ X1 (v50 + (1 : Int))))))) ∧ ((decide (v50 < (ret19v.1.2.2.1.length : Int))) = false → VC10_k1 w K ret19v ret26v))

def VC10 (k : Int) (l : LN) (w : LI) (K : Bool → Prop) : Prop :=
  VC31 k l (fun (ret19v : (Int × (Int × (LN × (Int × Int)))) × Int) => VC23 k l w (fun (ret26v : Bool × Int) => VC24 k l w (fun (ret32v : Bool) => (((!ret32v) = true → K (!decide (ret26v.2 = (0 : Int)))) ∧ ((!ret32v) = false → (((!decide (ret26v.2 = (0 : Int))) = true → K false) ∧ ((!decide (ret26v.2 = (0 : Int))) = false → (((!decide (ret19v.2 = (0 : Int))) = true → K ((decide (ret19v.2 = (1 : Int))) && (decide (ret19v.1.1 = (0 : Int))))) ∧ ((!decide (ret19v.2 = (0 : Int))) = false → Loop (σ := Int) (fun s X => VC10_l1 w K ret19v ret26v s X) (0 : Int))))))))))

set_option maxHeartbeats 4000000 in
theorem link10 (k : Int) (l : LN) (w : LI) (K : Bool → Prop) (h : VC10 k l w K) : ACalls Try.prog 10 [toV1 (.int .i64) k, toV1 (.sl t3) l, toV1 (.sl (.int .i64)) w] (fun res => ∃ y, res = (fun y => [toV1 .bool y]) y ∧ K y) := by
  refine acalls_of_aw [.bool] [.t 6] Try.func10 rfl rfl rfl ?_
  unfold VC10 at h
  refine aw_seq ?_
  refine aw_region ?_
  refine awl_runp 1 [0, 1, 2] [] (ob := (True ∧ True)) (st' := (⟨72, [(0, [], .v (.c (.pI k))), (1, [], .v (.c (.p (.sl t3) l))), (2, [], .v (.c (.pS w)))], []⟩ : St)) (by kernel_rfl) ⟨trivial, trivial⟩ ?_
  refine awl_nil ?_
  refine thenQ_n ?_
  refine aw_seq ?_
  refine aw_region ?_
  refine awl_runp 2 [0, 1, 2, 17, 18] [] (ob := (True ∧ True ∧ True)) (st' := (⟨72, [(0, [], .v (.c (.pI k))), (1, [], .v (.c (.p (.sl t3) l))), (2, [], .v (.c (.pS w))), (17, [], .v (.c (.pI k))), (18, [], .v (.c (.p (.sl t3) l)))], []⟩ : St)) (by kernel_rfl) ⟨trivial, trivial, trivial⟩ ?_
  refine awl_callk (p := []) (l := [toV1 (.int .i64) k, toV1 (.sl t3) l]) (cl := []) false [.d (.int .i64), .d (.sl t3)] [0, 1, 2, 19] [] (fun (ret19v : (Int × (Int × (LN × (Int × Int)))) × Int) => VC23 k l w (fun (ret26v : Bool × Int) => VC24 k l w (fun (ret32v : Bool) => (((!ret32v) = true → K (!decide (ret26v.2 = (0 : Int)))) ∧ ((!ret32v) = false → (((!decide (ret26v.2 = (0 : Int))) = true → K false) ∧ ((!decide (ret26v.2 = (0 : Int))) = false → (((!decide (ret19v.2 = (0 : Int))) = true → K ((decide (ret19v.2 = (1 : Int))) && (decide (ret19v.1.1 = (0 : Int))))) ∧ ((!decide (ret19v.2 = (0 : Int))) = false → Loop (σ := Int) (fun s X => VC10_l1 w K ret19v ret26v s X) (0 : Int)))))))))) (fun ret19v => [toV1 (.pr (.int .i64) (.pr (.int .i64) (.pr (.sl t3) (.pr (.int .u32) (.int .u32))))) ret19v.1, toV1 (.int .i64) ret19v.2]) (fun ret19v => (⟨72, [(0, [], .v (.c (.pI k))), (1, [], .v (.c (.p (.sl t3) l))), (2, [], .v (.c (.pS w))), (19, [], .tup [.agg [.pI ret19v.1.1, .pI ret19v.1.2.1, .p (.sl t3) ret19v.1.2.2.1, .p (.int .u32) ret19v.1.2.2.2.1, .p (.int .u32) ret19v.1.2.2.2.2], .c (.pI ret19v.2)])], []⟩ : St)) (by kernel_rfl) rfl (by kernel_rfl) rfl (by kernel_rfl) Try.call31 (by kernel_rfl) (fun ret19v => by kernel_rfl) (fun e => by cases e) (fun hg => link31 k l _ h) (fun hg => noF hg) (fun ret19v h => ?_)
  have h : VC23 k l w (fun (ret26v : Bool × Int) => VC24 k l w (fun (ret32v : Bool) => (((!ret32v) = true → K (!decide (ret26v.2 = (0 : Int)))) ∧ ((!ret32v) = false → (((!decide (ret26v.2 = (0 : Int))) = true → K false) ∧ ((!decide (ret26v.2 = (0 : Int))) = false → (((!decide (ret19v.2 = (0 : Int))) = true → K ((decide (ret19v.2 = (1 : Int))) && (decide (ret19v.1.1 = (0 : Int))))) ∧ ((!decide (ret19v.2 = (0 : Int))) = false → Loop (σ := Int) (fun s X => VC10_l1 w K ret19v ret26v s X) (0 : Int))))))))) := h
  refine awl_runp 6 [0, 1, 2, 7, 8] [7] (ob := (True ∧ True ∧ True ∧ True ∧ True ∧ True ∧ True)) (st' := (⟨72, [(0, [], .v (.c (.pI k))), (1, [], .v (.c (.p (.sl t3) l))), (2, [], .v (.c (.pS w))), (7, [], .v (.c (.ptr 7 0))), (8, [], .v (.c (.pI ret19v.2)))], [(7, [], .box [.pI ret19v.1.1, .pI ret19v.1.2.1, .p (.sl t3) ret19v.1.2.2.1, .p (.int .u32) ret19v.1.2.2.2.1, .p (.int .u32) ret19v.1.2.2.2.2])]⟩ : St)) (by kernel_rfl) ⟨trivial, trivial, trivial, trivial, trivial, trivial, trivial⟩ ?_
  refine awl_nil ?_
  refine thenQ_n ?_
  refine aw_seq ?_
  refine aw_region ?_
  refine awl_runp 3 [0, 1, 2, 7, 8, 23, 24, 25] [7] (ob := (True ∧ True ∧ True ∧ True)) (st' := (⟨72, [(0, [], .v (.c (.pI k))), (1, [], .v (.c (.p (.sl t3) l))), (2, [], .v (.c (.pS w))), (7, [], .v (.c (.ptr 7 0))), (8, [], .v (.c (.pI ret19v.2))), (23, [], .v (.c (.pI k))), (24, [], .v (.c (.p (.sl t3) l))), (25, [], .v (.c (.pS w)))], [(7, [], .box [.pI ret19v.1.1, .pI ret19v.1.2.1, .p (.sl t3) ret19v.1.2.2.1, .p (.int .u32) ret19v.1.2.2.2.1, .p (.int .u32) ret19v.1.2.2.2.2])]⟩ : St)) (by kernel_rfl) ⟨trivial, trivial, trivial, trivial⟩ ?_
  refine awl_callk (p := []) (l := [toV1 (.int .i64) k, toV1 (.sl t3) l, toV1 (.sl (.int .i64)) w]) (cl := []) false [.d (.int .i64), .d (.sl t3), .d (.sl (.int .i64))] [0, 1, 2, 7, 8, 26] [7] (fun (ret26v : Bool × Int) => VC24 k l w (fun (ret32v : Bool) => (((!ret32v) = true → K (!decide (ret26v.2 = (0 : Int)))) ∧ ((!ret32v) = false → (((!decide (ret26v.2 = (0 : Int))) = true → K false) ∧ ((!decide (ret26v.2 = (0 : Int))) = false → (((!decide (ret19v.2 = (0 : Int))) = true → K ((decide (ret19v.2 = (1 : Int))) && (decide (ret19v.1.1 = (0 : Int))))) ∧ ((!decide (ret19v.2 = (0 : Int))) = false → Loop (σ := Int) (fun s X => VC10_l1 w K ret19v ret26v s X) (0 : Int))))))))) (fun ret26v => [toV1 .bool ret26v.1, toV1 (.int .i64) ret26v.2]) (fun ret26v => (⟨72, [(0, [], .v (.c (.pI k))), (1, [], .v (.c (.p (.sl t3) l))), (2, [], .v (.c (.pS w))), (7, [], .v (.c (.ptr 7 0))), (8, [], .v (.c (.pI ret19v.2))), (26, [], .tup [.c (.pB ret26v.1), .c (.pI ret26v.2)])], [(7, [], .box [.pI ret19v.1.1, .pI ret19v.1.2.1, .p (.sl t3) ret19v.1.2.2.1, .p (.int .u32) ret19v.1.2.2.2.1, .p (.int .u32) ret19v.1.2.2.2.2])]⟩ : St)) (by kernel_rfl) rfl (by kernel_rfl) rfl (by kernel_rfl) Try.call23 (by kernel_rfl) (fun ret26v => by kernel_rfl) (fun e => by cases e) (fun hg => link23 k l w _ h) (fun hg => noF hg) (fun ret26v h => ?_)
  have h : VC24 k l w (fun (ret32v : Bool) => (((!ret32v) = true → K (!decide (ret26v.2 = (0 : Int)))) ∧ ((!ret32v) = false → (((!decide (ret26v.2 = (0 : Int))) = true → K false) ∧ ((!decide (ret26v.2 = (0 : Int))) = false → (((!decide (ret19v.2 = (0 : Int))) = true → K ((decide (ret19v.2 = (1 : Int))) && (decide (ret19v.1.1 = (0 : Int))))) ∧ ((!decide (ret19v.2 = (0 : Int))) = false → Loop (σ := Int) (fun s X => VC10_l1 w K ret19v ret26v s X) (0 : Int)))))))) := h
  refine awl_runp 5 [0, 1, 2, 7, 8, 9, 10] [7] (ob := (True ∧ True ∧ True ∧ True ∧ True ∧ True)) (st' := (⟨72, [(0, [], .v (.c (.pI k))), (1, [], .v (.c (.p (.sl t3) l))), (2, [], .v (.c (.pS w))), (7, [], .v (.c (.ptr 7 0))), (8, [], .v (.c (.pI ret19v.2))), (9, [], .v (.c (.pB ret26v.1))), (10, [], .v (.c (.pI ret26v.2)))], [(7, [], .box [.pI ret19v.1.1, .pI ret19v.1.2.1, .p (.sl t3) ret19v.1.2.2.1, .p (.int .u32) ret19v.1.2.2.2.1, .p (.int .u32) ret19v.1.2.2.2.2])]⟩ : St)) (by kernel_rfl) ⟨trivial, trivial, trivial, trivial, trivial, trivial⟩ ?_
  refine awl_nil ?_
  refine thenQ_n ?_
  refine aw_seq ?_
  refine aw_seq ?_
  refine aw_region ?_
  refine awl_runp 3 [2, 7, 8, 9, 10, 29, 30, 31] [7] (ob := (True ∧ True ∧ True ∧ True)) (st' := (⟨72, [(2, [], .v (.c (.pS w))), (7, [], .v (.c (.ptr 7 0))), (8, [], .v (.c (.pI ret19v.2))), (9, [], .v (.c (.pB ret26v.1))), (10, [], .v (.c (.pI ret26v.2))), (29, [], .v (.c (.pI k))), (30, [], .v (.c (.p (.sl t3) l))), (31, [], .v (.c (.pS w)))], [(7, [], .box [.pI ret19v.1.1, .pI ret19v.1.2.1, .p (.sl t3) ret19v.1.2.2.1, .p (.int .u32) ret19v.1.2.2.2.1, .p (.int .u32) ret19v.1.2.2.2.2])]⟩ : St)) (by kernel_rfl) ⟨trivial, trivial, trivial, trivial⟩ ?_
  refine awl_callk (p := []) (l := [toV1 (.int .i64) k, toV1 (.sl t3) l, toV1 (.sl (.int .i64)) w]) (cl := []) false [.d (.int .i64), .d (.sl t3), .d (.sl (.int .i64))] [2, 7, 8, 9, 10, 32] [7] (fun (ret32v : Bool) => (((!ret32v) = true → K (!decide (ret26v.2 = (0 : Int)))) ∧ ((!ret32v) = false → (((!decide (ret26v.2 = (0 : Int))) = true → K false) ∧ ((!decide (ret26v.2 = (0 : Int))) = false → (((!decide (ret19v.2 = (0 : Int))) = true → K ((decide (ret19v.2 = (1 : Int))) && (decide (ret19v.1.1 = (0 : Int))))) ∧ ((!decide (ret19v.2 = (0 : Int))) = false → Loop (σ := Int) (fun s X => VC10_l1 w K ret19v ret26v s X) (0 : Int)))))))) (fun ret32v => [toV1 .bool ret32v]) (fun ret32v => (⟨72, [(2, [], .v (.c (.pS w))), (7, [], .v (.c (.ptr 7 0))), (8, [], .v (.c (.pI ret19v.2))), (9, [], .v (.c (.pB ret26v.1))), (10, [], .v (.c (.pI ret26v.2))), (32, [], .v (.c (.pB ret32v)))], [(7, [], .box [.pI ret19v.1.1, .pI ret19v.1.2.1, .p (.sl t3) ret19v.1.2.2.1, .p (.int .u32) ret19v.1.2.2.2.1, .p (.int .u32) ret19v.1.2.2.2.2])]⟩ : St)) (by kernel_rfl) rfl (by kernel_rfl) rfl (by kernel_rfl) Try.call24 (by kernel_rfl) (fun ret32v => by kernel_rfl) (fun e => by cases e) (fun hg => link24 k l w _ h) (fun hg => noF hg) (fun ret32v h => ?_)
  have h : (((!ret32v) = true → K (!decide (ret26v.2 = (0 : Int)))) ∧ ((!ret32v) = false → (((!decide (ret26v.2 = (0 : Int))) = true → K false) ∧ ((!decide (ret26v.2 = (0 : Int))) = false → (((!decide (ret19v.2 = (0 : Int))) = true → K ((decide (ret19v.2 = (1 : Int))) && (decide (ret19v.1.1 = (0 : Int))))) ∧ ((!decide (ret19v.2 = (0 : Int))) = false → Loop (σ := Int) (fun s X => VC10_l1 w K ret19v ret26v s X) (0 : Int))))))) := h
  refine awl_runp 1 [2, 7, 8, 9, 10, 33] [7] (ob := (True ∧ True)) (st' := (⟨72, [(2, [], .v (.c (.pS w))), (7, [], .v (.c (.ptr 7 0))), (8, [], .v (.c (.pI ret19v.2))), (9, [], .v (.c (.pB ret26v.1))), (10, [], .v (.c (.pI ret26v.2))), (33, [], .v (.c (.pB (!ret32v))))], [(7, [], .box [.pI ret19v.1.1, .pI ret19v.1.2.1, .p (.sl t3) ret19v.1.2.2.1, .p (.int .u32) ret19v.1.2.2.2.1, .p (.int .u32) ret19v.1.2.2.2.2])]⟩ : St)) (by kernel_rfl) ⟨trivial, trivial⟩ ?_
  refine awl_nil ?_
  refine thenQ_n ?_
  refine aw_cond (b := (!ret32v)) (by kernel_rfl) (fun hb => ?_) (fun hb => ?_)
  · have h := h.1 hb
    refine aw_seq ?_
    refine aw_region ?_
    refine awl_runp 3 [6] [] (ob := (True ∧ True ∧ True ∧ True)) (st' := (⟨72, [(6, [], .v (.c (.pB (!decide (ret26v.2 = (0 : Int))))))], []⟩ : St)) (by kernel_rfl) ⟨trivial, trivial, trivial, trivial⟩ ?_
    refine awl_nil ?_
    refine thenQ_n ?_
    refine aw_ret ?_
    refine thenQ_r ?_
    exact retQ_r (σ := Bool) (R := (fun y => [toV1 .bool y])) (ob := (True ∧ True)) (!decide (ret26v.2 = (0 : Int))) (by kernel_rfl) ⟨trivial, trivial⟩ h
  · have h := h.2 hb
    refine aw_skip ?_
    refine thenQ_n ?_
    refine aw_seq ?_
    refine aw_seq ?_
    refine aw_region ?_
    refine awl_runp 2 [2, 7, 8, 9, 37] [7] (ob := (True ∧ True ∧ True)) (st' := (⟨72, [(2, [], .v (.c (.pS w))), (7, [], .v (.c (.ptr 7 0))), (8, [], .v (.c (.pI ret19v.2))), (9, [], .v (.c (.pB ret26v.1))), (37, [], .v (.c (.pB (!decide (ret26v.2 = (0 : Int))))))], [(7, [], .box [.pI ret19v.1.1, .pI ret19v.1.2.1, .p (.sl t3) ret19v.1.2.2.1, .p (.int .u32) ret19v.1.2.2.2.1, .p (.int .u32) ret19v.1.2.2.2.2])]⟩ : St)) (by kernel_rfl) ⟨trivial, trivial, trivial⟩ ?_
    refine awl_nil ?_
    refine thenQ_n ?_
    refine aw_cond (b := (!decide (ret26v.2 = (0 : Int)))) (by kernel_rfl) (fun hb => ?_) (fun hb => ?_)
    · have h := h.1 hb
      refine aw_seq ?_
      refine aw_region ?_
      refine awl_runp 1 [6] [] (ob := (True ∧ True)) (st' := (⟨72, [(6, [], .v (.c (.pB false)))], []⟩ : St)) (by kernel_rfl) ⟨trivial, trivial⟩ ?_
      refine awl_nil ?_
      refine thenQ_n ?_
      refine aw_ret ?_
      refine thenQ_r ?_
      exact retQ_r (σ := Bool) (R := (fun y => [toV1 .bool y])) (ob := (True ∧ True)) false (by kernel_rfl) ⟨trivial, trivial⟩ h
    · have h := h.2 hb
      refine aw_skip ?_
      refine thenQ_n ?_
      refine aw_seq ?_
      refine aw_seq ?_
      refine aw_region ?_
      refine awl_runp 2 [2, 7, 8, 9, 39] [7] (ob := (True ∧ True ∧ True)) (st' := (⟨72, [(2, [], .v (.c (.pS w))), (7, [], .v (.c (.ptr 7 0))), (8, [], .v (.c (.pI ret19v.2))), (9, [], .v (.c (.pB ret26v.1))), (39, [], .v (.c (.pB (!decide (ret19v.2 = (0 : Int))))))], [(7, [], .box [.pI ret19v.1.1, .pI ret19v.1.2.1, .p (.sl t3) ret19v.1.2.2.1, .p (.int .u32) ret19v.1.2.2.2.1, .p (.int .u32) ret19v.1.2.2.2.2])]⟩ : St)) (by kernel_rfl) ⟨trivial, trivial, trivial⟩ ?_
      refine awl_nil ?_
      refine thenQ_n ?_
      refine aw_cond (b := (!decide (ret19v.2 = (0 : Int)))) (by kernel_rfl) (fun hb => ?_) (fun hb => ?_)
      · have h := h.1 hb
        refine aw_seq ?_
        refine aw_region ?_
        refine awl_runp 8 [6] [] (ob := (True ∧ True ∧ True ∧ ((decide (ret19v.2 = (1 : Int))) = true → True) ∧ ((decide (ret19v.2 = (1 : Int))) = true → True) ∧ ((decide (ret19v.2 = (1 : Int))) = true → True) ∧ True ∧ True ∧ True)) (st' := (⟨72, [(6, [], .v (.c (.pB ((decide (ret19v.2 = (1 : Int))) && (decide (ret19v.1.1 = (0 : Int)))))))], []⟩ : St)) (by kernel_rfl) ⟨trivial, trivial, trivial, (fun _ => trivial), (fun _ => trivial), (fun _ => trivial), trivial, trivial, trivial⟩ ?_
        refine awl_nil ?_
        refine thenQ_n ?_
        refine aw_ret ?_
        refine thenQ_r ?_
        exact retQ_r (σ := Bool) (R := (fun y => [toV1 .bool y])) (ob := (True ∧ True)) ((decide (ret19v.2 = (1 : Int))) && (decide (ret19v.1.1 = (0 : Int)))) (by kernel_rfl) ⟨trivial, trivial⟩ h
      · have h := h.2 hb
        refine aw_skip ?_
        refine thenQ_n ?_
        refine aw_seq ?_
        refine aw_seq ?_
        refine aw_region ?_
        refine awl_runp 4 [2, 7, 9, 48, 49, 50] [7] (ob := (True ∧ True ∧ True ∧ True ∧ True)) (st' := (⟨72, [(2, [], .v (.c (.pS w))), (7, [], .v (.c (.ptr 7 0))), (9, [], .v (.c (.pB ret26v.1))), (48, [], .v (.c (.p (.sl t3) ret19v.1.2.2.1))), (49, [], .v (.c (.pI (ret19v.1.2.2.1.length : Int)))), (50, [], .v (.c (.pI (0 : Int))))], [(7, [], .box [.pI ret19v.1.1, .pI ret19v.1.2.1, .p (.sl t3) ret19v.1.2.2.1, .p (.int .u32) ret19v.1.2.2.2.1, .p (.int .u32) ret19v.1.2.2.2.2])]⟩ : St)) (by kernel_rfl) ⟨trivial, trivial, trivial, trivial, trivial⟩ ?_
        refine awl_nil ?_
        refine thenQ_n ?_
        refine withJoin (σ := Unit) (fun s => (⟨72, [(2, [], .v (.c (.pS w))), (7, [], .v (.c (.ptr 7 0))), (9, [], .v (.c (.pB ret26v.1)))], [(7, [], .box [.pI ret19v.1.1, .pI ret19v.1.2.1, .p (.sl t3) ret19v.1.2.2.1, .p (.int .u32) ret19v.1.2.2.2.1, .p (.int .u32) ret19v.1.2.2.2.2])]⟩ : St)) (fun s => VC10_k1 w K ret19v ret26v) (fun s h => ?_) (fun rest1 => ?_)
        · have h : VC10_k1 w K ret19v ret26v := h
          unfold VC10_k1 at h
          refine thenQ_n ?_
          refine aw_seq ?_
          refine aw_region ?_
          refine awl_runp 2 [9, 59, 60] [] (ob := (True ∧ True ∧ True)) (st' := (⟨72, [(9, [], .v (.c (.pB ret26v.1))), (59, [], .v (.agg [.pI ret19v.1.1, .pI ret19v.1.2.1, .p (.sl t3) ret19v.1.2.2.1, .p (.int .u32) ret19v.1.2.2.2.1, .p (.int .u32) ret19v.1.2.2.2.2])), (60, [], .v (.c (.pS w)))], []⟩ : St)) (by kernel_rfl) ⟨trivial, trivial, trivial⟩ ?_
          refine awl_callk (p := []) (l := [toV1 (.pr (.int .i64) (.pr (.int .i64) (.pr (.sl t3) (.pr (.int .u32) (.int .u32))))) ret19v.1, toV1 (.sl (.int .i64)) w]) (cl := []) false [.d (.pr (.int .i64) (.pr (.int .i64) (.pr (.sl t3) (.pr (.int .u32) (.int .u32))))), .d (.sl (.int .i64))] [9, 61] [] (fun (ret61v : Int × Bool × Int) => K ((decide (ret61v.2.2 = (0 : Int))) && (ret26v.1 == ret61v.2.1))) (fun ret61v => [toV1 (.int .u32) ret61v.1, toV1 .bool ret61v.2.1, toV1 (.int .i64) ret61v.2.2]) (fun ret61v => (⟨72, [(9, [], .v (.c (.pB ret26v.1))), (61, [], .tup [.c (.p (.int .u32) ret61v.1), .c (.pB ret61v.2.1), .c (.pI ret61v.2.2)])], []⟩ : St)) (by kernel_rfl) rfl (by kernel_rfl) rfl (by kernel_rfl) Try.call32 (by kernel_rfl) (fun ret61v => by kernel_rfl) (fun e => by cases e) (fun hg => link32 ret19v.1 w _ h) (fun hg => noF hg) (fun ret61v h => ?_)
          have h : K ((decide (ret61v.2.2 = (0 : Int))) && (ret26v.1 == ret61v.2.1)) := h
          refine awl_runp 7 [9, 14, 15] [] (ob := (True ∧ True ∧ True ∧ True ∧ True ∧ True ∧ True ∧ True)) (st' := (⟨72, [(9, [], .v (.c (.pB ret26v.1))), (14, [], .v (.c (.pB ret61v.2.1))), (15, [], .v (.c (.pI ret61v.2.2)))], []⟩ : St)) (by kernel_rfl) ⟨trivial, trivial, trivial, trivial, trivial, trivial, trivial, trivial⟩ ?_
          refine awl_nil ?_
          refine thenQ_n ?_
          refine aw_seq ?_
          refine aw_region ?_
          refine awl_runp 8 [6] [] (ob := (True ∧ True ∧ True ∧ ((decide (ret61v.2.2 = (0 : Int))) = true → True) ∧ ((decide (ret61v.2.2 = (0 : Int))) = true → True) ∧ ((decide (ret61v.2.2 = (0 : Int))) = true → True) ∧ True ∧ True ∧ True)) (st' := (⟨72, [(6, [], .v (.c (.pB ((decide (ret61v.2.2 = (0 : Int))) && (ret26v.1 == ret61v.2.1)))))], []⟩ : St)) (by kernel_rfl) ⟨trivial, trivial, trivial, (fun _ => trivial), (fun _ => trivial), (fun _ => trivial), trivial, trivial, trivial⟩ ?_
          refine awl_nil ?_
          refine thenQ_n ?_
          refine aw_ret ?_
          exact retQ_r (σ := Bool) (R := (fun y => [toV1 .bool y])) (ob := (True ∧ True)) ((decide (ret61v.2.2 = (0 : Int))) && (ret26v.1 == ret61v.2.1)) (by kernel_rfl) ⟨trivial, trivial⟩ h
        · refine aw_block ?_
          refine aw_loop (σ := Int) (fun s => (⟨72, [(2, [], .v (.c (.pS w))), (7, [], .v (.c (.ptr 7 0))), (9, [], .v (.c (.pB ret26v.1))), (48, [], .v (.c (.p (.sl t3) ret19v.1.2.2.1))), (49, [], .v (.c (.pI (ret19v.1.2.2.1.length : Int)))), (50, [], .v (.c (.pI s)))], [(7, [], .box [.pI ret19v.1.1, .pI ret19v.1.2.1, .p (.sl t3) ret19v.1.2.2.1, .p (.int .u32) ret19v.1.2.2.2.1, .p (.int .u32) ret19v.1.2.2.2.2])]⟩ : St)) (fun s X => VC10_l1 w K ret19v ret26v s X) (s0 := (0 : Int)) (fun v50 X1 h => ?_) h
          have h : VC10_l1 w K ret19v ret26v v50 X1 := h
          unfold VC10_l1 at h
          refine aw_seq ?_
          refine aw_region ?_
          refine awl_runp 1 [2, 7, 9, 48, 49, 50, 51] [7] (ob := (True ∧ True)) (st' := (⟨72, [(2, [], .v (.c (.pS w))), (7, [], .v (.c (.ptr 7 0))), (9, [], .v (.c (.pB ret26v.1))), (48, [], .v (.c (.p (.sl t3) ret19v.1.2.2.1))), (49, [], .v (.c (.pI (ret19v.1.2.2.1.length : Int)))), (50, [], .v (.c (.pI v50))), (51, [], .v (.c (.pB (decide (v50 < (ret19v.1.2.2.1.length : Int))))))], [(7, [], .box [.pI ret19v.1.1, .pI ret19v.1.2.1, .p (.sl t3) ret19v.1.2.2.1, .p (.int .u32) ret19v.1.2.2.2.1, .p (.int .u32) ret19v.1.2.2.2.2])]⟩ : St)) (by kernel_rfl) ⟨trivial, trivial⟩ ?_
          refine awl_nil ?_
          refine thenQ_n ?_
          refine aw_seq ?_
          refine aw_cond (b := (decide (v50 < (ret19v.1.2.2.1.length : Int)))) (by kernel_rfl) (fun hb => ?_) (fun hb => ?_)
          · have h := h.1 hb
            refine aw_skip ?_
            refine thenQ_n ?_
            refine aw_seq ?_
            refine aw_block ?_
            refine aw_seq ?_
            refine aw_region ?_
            obtain ⟨o1, h⟩ := h
            refine awl_runp 4 [2, 7, 9, 12, 48, 49, 50] [7, 12] (ob := (inIdx v50 ret19v.1.2.2.1.length ∧ True ∧ True ∧ True ∧ True)) (st' := (⟨72, [(2, [], .v (.c (.pS w))), (7, [], .v (.c (.ptr 7 0))), (9, [], .v (.c (.pB ret26v.1))), (12, [], .v (.c (.ptr 12 0))), (48, [], .v (.c (.p (.sl t3) ret19v.1.2.2.1))), (49, [], .v (.c (.pI (ret19v.1.2.2.1.length : Int)))), (50, [], .v (.c (.pI v50)))], [(7, [], .box [.pI ret19v.1.1, .pI ret19v.1.2.1, .p (.sl t3) ret19v.1.2.2.1, .p (.int .u32) ret19v.1.2.2.2.1, .p (.int .u32) ret19v.1.2.2.2.2]), (12, [], .box [.pI ((ret19v.1.2.2.1.getD (v50).toNat z3).1), .pI ((ret19v.1.2.2.1.getD (v50).toNat z3).2.1), .pI ((ret19v.1.2.2.1.getD (v50).toNat z3).2.2)])]⟩ : St)) (by kernel_rfl) ⟨o1, trivial, trivial, trivial, trivial⟩ ?_
            refine awl_nil ?_
            refine thenQ_n ?_
            refine aw_seq ?_
            refine aw_region ?_
            refine awl_runp 3 [2, 7, 9, 48, 49, 50, 56] [7] (ob := (True ∧ True ∧ True ∧ True)) (st' := (⟨72, [(2, [], .v (.c (.pS w))), (7, [], .v (.c (.ptr 7 0))), (9, [], .v (.c (.pB ret26v.1))), (48, [], .v (.c (.p (.sl t3) ret19v.1.2.2.1))), (49, [], .v (.c (.pI (ret19v.1.2.2.1.length : Int)))), (50, [], .v (.c (.pI v50))), (56, [], .v (.c (.pB (decide ((ret19v.1.2.2.1.getD (v50).toNat z3).2.1 < (0 : Int))))))], [(7, [], .box [.pI ret19v.1.1, .pI ret19v.1.2.1, .p (.sl t3) ret19v.1.2.2.1, .p (.int .u32) ret19v.1.2.2.2.1, .p (.int .u32) ret19v.1.2.2.2.2])]⟩ : St)) (by kernel_rfl) ⟨trivial, trivial, trivial, trivial⟩ ?_
            refine awl_nil ?_
            refine thenQ_n ?_
            refine aw_cond (b := (decide ((ret19v.1.2.2.1.getD (v50).toNat z3).2.1 < (0 : Int)))) (by kernel_rfl) (fun hb => ?_) (fun hb => ?_)
            · have h := h.1 hb
              refine aw_seq ?_
              refine aw_region ?_
              refine awl_runp 1 [6] [] (ob := (True ∧ True)) (st' := (⟨72, [(6, [], .v (.c (.pB false)))], []⟩ : St)) (by kernel_rfl) ⟨trivial, trivial⟩ ?_
              refine awl_nil ?_
              refine thenQ_n ?_
              refine aw_ret ?_
              refine blockQ_r ?_
              refine thenQ_r ?_
              refine thenQ_r ?_
              refine blockQ_r ?_
              refine thenQ_r ?_
              exact retQ_r (σ := Bool) (R := (fun y => [toV1 .bool y])) (ob := (True ∧ True)) false (by kernel_rfl) ⟨trivial, trivial⟩ h
            · have h := h.2 hb
              refine aw_skip ?_
              refine blockQ_n ?_
              refine thenQ_n ?_
              refine aw_region ?_
              obtain ⟨o1, h⟩ := h
              refine awl_runp 2 [2, 7, 9, 48, 49, 50] [7] (ob := (InR (v50 + (1 : Int)) ∧ True ∧ True)) (st' := (⟨72, [(2, [], .v (.c (.pS w))), (7, [], .v (.c (.ptr 7 0))), (9, [], .v (.c (.pB ret26v.1))), (48, [], .v (.c (.p (.sl t3) ret19v.1.2.2.1))), (49, [], .v (.c (.pI (ret19v.1.2.2.1.length : Int)))), (50, [], .v (.c (.pI (v50 + (1 : Int)))))], [(7, [], .box [.pI ret19v.1.1, .pI ret19v.1.2.1, .p (.sl t3) ret19v.1.2.2.1, .p (.int .u32) ret19v.1.2.2.2.1, .p (.int .u32) ret19v.1.2.2.2.2])]⟩ : St)) (by kernel_rfl) ⟨o1, trivial, trivial⟩ ?_
              refine awl_nil ?_
              exact thenQ_n ⟨(v50 + (1 : Int)), rfl, h⟩
          · have h := h.2 hb
            refine aw_conv [.prune [2, 7, 9] [7]] (st' := (⟨72, [(2, [], .v (.c (.pS w))), (7, [], .v (.c (.ptr 7 0))), (9, [], .v (.c (.pB ret26v.1)))], [(7, [], .box [.pI ret19v.1.1, .pI ret19v.1.2.1, .p (.sl t3) ret19v.1.2.2.1, .p (.int .u32) ret19v.1.2.2.2.1, .p (.int .u32) ret19v.1.2.2.2.2])]⟩ : St)) (by kernel_rfl) ?_
            refine aw_exit ?_
            refine thenQ_x ?_
            refine thenQ_x ?_
            refine blockQ_hit ?_
            exact rest1 () h

end Dec
