/-
  Printed by dec2.py: of each function its plain demand, and that the demand gives the contract.
-/
import Derived.Test.YtckghdhnmpnljaaProg
import Derived.Test.YtckghdhnmpnljaaDecRc
set_option linter.unusedVariables false
set_option linter.unusedSimpArgs false
set_option maxRecDepth 100000
namespace Dec
open Go Go.RowKit Go.Proofs

-- coppicer/sentence.fault$1
def VC101 (x : Int) (a1 : Int) (K : Bool → Prop) : Prop :=
  K ((decide ((0 : Int) ≤ x)) && (decide (x < a1)))

set_option maxHeartbeats 4000000 in
theorem link101 (x : Int) (a1 : Int) (K : Bool → Prop) (h : VC101 x a1 K) : ACalls Try.prog 101 [toV1 (.int .i64) x, .c (.ad (.int .i64) a1)] (fun res => ∃ y, res = (fun y => [toV1 .bool y]) y ∧ K y) := by
  refine acalls_of_aw [.bool] [.t 3] Try.func101 rfl rfl rfl ?_
  unfold VC101 at h
  refine aw_seq ?_
  refine aw_region ?_
  refine awl_runp 1 [0, 1] [] (ob := (True ∧ True)) (st' := (⟨11, [(0, [], .v (.c (.pI x))), (1, [], .v (.c (.ad (.int .i64) a1)))], []⟩ : St)) (by kernel_rfl) ⟨trivial, trivial⟩ ?_
  refine awl_nil ?_
  refine thenQ_n ?_
  refine aw_seq ?_
  refine aw_region ?_
  refine awl_runp 8 [3] [] (ob := (True ∧ True ∧ True ∧ ((decide ((0 : Int) ≤ x)) = true → True) ∧ ((decide ((0 : Int) ≤ x)) = true → True) ∧ ((decide ((0 : Int) ≤ x)) = true → True) ∧ True ∧ True ∧ True)) (st' := (⟨11, [(3, [], .v (.c (.pB ((decide ((0 : Int) ≤ x)) && (decide (x < a1))))))], []⟩ : St)) (by kernel_rfl) ⟨trivial, trivial, trivial, (fun _ => trivial), (fun _ => trivial), (fun _ => trivial), trivial, trivial, trivial⟩ ?_
  refine awl_nil ?_
  refine thenQ_n ?_
  refine aw_ret ?_
  exact retQ_r (σ := Bool) (R := (fun y => [toV1 .bool y])) (ob := (True ∧ True)) ((decide ((0 : Int) ≤ x)) && (decide (x < a1))) (by kernel_rfl) ⟨trivial, trivial⟩ h

-- coppicer/sentence.fault
def VC85_k2 (K : Int → Prop) : Prop :=
  K (0 : Int)

def VC85_k4 (K : Int → Prop) : Prop :=
  VC85_k2 K

def VC85_k3 (i : Int) (n : (Int × (Int × Int))) (K : Int → Prop) (v25 : Bool) : Prop :=
  ((v25 = true → VC101 n.2.1 i (fun (ret31v : Bool) => gcall (α := Bool) (!(!ret31v)) (VC101 n.2.2 i) false (fun (ret37v : Bool) => ((((!ret31v) || (!ret37v)) = true → K (2 : Int)) ∧ (((!ret31v) || (!ret37v)) = false → VC85_k4 K))))) ∧ (v25 = false → (((decide (n.1 = (6 : Int))) = true → VC101 n.2.1 i (fun (ret45v : Bool) => (((!ret45v) = true → K (2 : Int)) ∧ ((!ret45v) = false → VC85_k4 K)))) ∧ ((decide (n.1 = (6 : Int))) = false → K (6 : Int)))))

def VC85_k1 (k : Int) (i : Int) (n : (Int × (Int × Int))) (K : Int → Prop) (v11 : Bool) : Prop :=
  ((v11 = true → K (0 : Int)) ∧ (v11 = false → (((decide (n.1 = (3 : Int))) = true → ((((decide (n.2.1 < (0 : Int))) || (decide (k ≤ n.2.1))) = true → K (2 : Int)) ∧ (((decide (n.2.1 < (0 : Int))) || (decide (k ≤ n.2.1))) = false → VC85_k2 K))) ∧ ((decide (n.1 = (3 : Int))) = false → (((decide (n.1 = (4 : Int))) = true → VC85_k3 i n K (decide (n.1 = (4 : Int)))) ∧ ((decide (n.1 = (4 : Int))) = false → VC85_k3 i n K (decide (n.1 = (5 : Int)))))))))

def VC85 (k : Int) (i : Int) (n : (Int × (Int × Int))) (K : Int → Prop) : Prop :=
  (((decide (n.1 = (1 : Int))) = true → VC85_k1 k i n K (decide (n.1 = (1 : Int)))) ∧ ((decide (n.1 = (1 : Int))) = false → VC85_k1 k i n K (decide (n.1 = (2 : Int)))))

set_option maxHeartbeats 4000000 in
theorem link85 (k : Int) (i : Int) (n : (Int × (Int × Int))) (K : Int → Prop) (h : VC85 k i n K) : ACalls Try.prog 85 [toV1 (.int .i64) k, toV1 (.int .i64) i, toV1 t3 n] (fun res => ∃ y, res = (fun y => [toV1 (.int .i64) y]) y ∧ K y) := by
  refine acalls_of_aw [(.int .i64)] [.t 6] Try.func85 rfl rfl rfl ?_
  unfold VC85 at h
  refine aw_seq ?_
  refine aw_region ?_
  refine awl_runp 3 [0, 4, 5] [4, 5] (ob := (True ∧ True ∧ True ∧ True)) (st' := (⟨47, [(0, [], .v (.c (.pI k))), (4, [], .v (.c (.ptr 4 0))), (5, [], .v (.c (.ptr 5 0)))], [(4, [], .box [.pI i]), (5, [], .box [.pI n.1, .pI n.2.1, .pI n.2.2])]⟩ : St)) (by kernel_rfl) ⟨trivial, trivial, trivial, trivial⟩ ?_
  refine awl_nil ?_
  refine thenQ_n ?_
  refine aw_seq ?_
  refine aw_region ?_
  refine awl_conv [.freezeB 4 (.int .i64)] (st' := (⟨47, [(0, [], .v (.c (.pI k))), (4, [], .v (.c (.ad (.int .i64) i))), (5, [], .v (.c (.ptr 5 0)))], [(5, [], .box [.pI n.1, .pI n.2.1, .pI n.2.2])]⟩ : St)) (by kernel_rfl) ?_
  refine awl_runp 2 [0, 5, 7] [5] (ob := (True ∧ True ∧ True)) (st' := (⟨47, [(0, [], .v (.c (.pI k))), (5, [], .v (.c (.ptr 5 0))), (7, [], .v (.c (.fn 101 [(⟨(.int .i64), i⟩ : Dat)])))], [(5, [], .box [.pI n.1, .pI n.2.1, .pI n.2.2])]⟩ : St)) (by kernel_rfl) ⟨trivial, trivial, trivial⟩ ?_
  refine awl_nil ?_
  refine thenQ_n ?_
  refine aw_seq ?_
  refine aw_seq ?_
  refine aw_region ?_
  refine awl_runp 2 [0, 5, 7, 10] [5] (ob := (True ∧ True ∧ True)) (st' := (⟨47, [(0, [], .v (.c (.pI k))), (5, [], .v (.c (.ptr 5 0))), (7, [], .v (.c (.fn 101 [(⟨(.int .i64), i⟩ : Dat)]))), (10, [], .v (.c (.pI n.1)))], [(5, [], .box [.pI n.1, .pI n.2.1, .pI n.2.2])]⟩ : St)) (by kernel_rfl) ⟨trivial, trivial, trivial⟩ ?_
  refine awl_nil ?_
  refine thenQ_n ?_
  refine aw_block ?_
  refine aw_seq ?_
  refine aw_seq ?_
  refine aw_region ?_
  refine awl_runp 2 [0, 5, 7, 10, 11] [5] (ob := (True ∧ True ∧ True)) (st' := (⟨47, [(0, [], .v (.c (.pI k))), (5, [], .v (.c (.ptr 5 0))), (7, [], .v (.c (.fn 101 [(⟨(.int .i64), i⟩ : Dat)]))), (10, [], .v (.c (.pI n.1))), (11, [], .v (.c (.pB (decide (n.1 = (1 : Int))))))], [(5, [], .box [.pI n.1, .pI n.2.1, .pI n.2.2])]⟩ : St)) (by kernel_rfl) ⟨trivial, trivial, trivial⟩ ?_
  refine awl_nil ?_
  refine thenQ_n ?_
  refine withJoin (σ := Bool) (fun s => (⟨47, [(0, [], .v (.c (.pI k))), (5, [], .v (.c (.ptr 5 0))), (7, [], .v (.c (.fn 101 [(⟨(.int .i64), i⟩ : Dat)]))), (10, [], .v (.c (.pI n.1))), (11, [], .v (.c (.pB s)))], [(5, [], .box [.pI n.1, .pI n.2.1, .pI n.2.2])]⟩ : St)) (fun s => VC85_k1 k i n K s) (fun v11 h => ?_) (fun rest4 => ?_)
  · have h : VC85_k1 k i n K v11 := h
    unfold VC85_k1 at h
    refine thenQ_n ?_
    refine aw_cond (b := v11) (by kernel_rfl) (fun hb => ?_) (fun hb => ?_)
    · have h := h.1 hb
      refine aw_seq ?_
      refine aw_region ?_
      refine awl_runp 1 [6] [] (ob := (True ∧ True)) (st' := (⟨47, [(6, [], .v (.c (.pI (0 : Int))))], []⟩ : St)) (by kernel_rfl) ⟨trivial, trivial⟩ ?_
      refine awl_nil ?_
      refine thenQ_n ?_
      refine aw_ret ?_
      refine blockQ_r ?_
      refine thenQ_r ?_
      exact retQ_r (σ := Int) (R := (fun y => [toV1 (.int .i64) y])) (ob := (True ∧ True)) (0 : Int) (by kernel_rfl) ⟨trivial, trivial⟩ h
    · have h := h.2 hb
      refine aw_seq ?_
      refine aw_region ?_
      refine awl_runp 2 [0, 5, 7, 10, 14] [5] (ob := (True ∧ True ∧ True)) (st' := (⟨47, [(0, [], .v (.c (.pI k))), (5, [], .v (.c (.ptr 5 0))), (7, [], .v (.c (.fn 101 [(⟨(.int .i64), i⟩ : Dat)]))), (10, [], .v (.c (.pI n.1))), (14, [], .v (.c (.pB (decide (n.1 = (3 : Int))))))], [(5, [], .box [.pI n.1, .pI n.2.1, .pI n.2.2])]⟩ : St)) (by kernel_rfl) ⟨trivial, trivial, trivial⟩ ?_
      refine awl_nil ?_
      refine thenQ_n ?_
      refine withJoin (σ := Unit) (fun s => (⟨47, [], []⟩ : St)) (fun s => VC85_k2 K) (fun s h => ?_) (fun rest1 => ?_)
      · have h : VC85_k2 K := h
        unfold VC85_k2 at h
        refine blockQ_n ?_
        refine thenQ_n ?_
        refine aw_seq ?_
        refine aw_region ?_
        refine awl_runp 1 [6] [] (ob := (True ∧ True)) (st' := (⟨47, [(6, [], .v (.c (.pI (0 : Int))))], []⟩ : St)) (by kernel_rfl) ⟨trivial, trivial⟩ ?_
        refine awl_nil ?_
        refine thenQ_n ?_
        refine aw_ret ?_
        exact retQ_r (σ := Int) (R := (fun y => [toV1 (.int .i64) y])) (ob := (True ∧ True)) (0 : Int) (by kernel_rfl) ⟨trivial, trivial⟩ h
      · refine aw_cond (b := (decide (n.1 = (3 : Int)))) (by kernel_rfl) (fun hb => ?_) (fun hb => ?_)
        · have h := h.1 hb
          refine aw_seq ?_
          refine aw_region ?_
          refine awl_runp 9 [24] [] (ob := (True ∧ True ∧ True ∧ True ∧ ((decide (n.2.1 < (0 : Int))) = false → True) ∧ ((decide (n.2.1 < (0 : Int))) = false → True) ∧ ((decide (n.2.1 < (0 : Int))) = false → True) ∧ ((decide (n.2.1 < (0 : Int))) = false → True) ∧ True ∧ True)) (st' := (⟨47, [(24, [], .v (.c (.pB ((decide (n.2.1 < (0 : Int))) || (decide (k ≤ n.2.1))))))], []⟩ : St)) (by kernel_rfl) ⟨trivial, trivial, trivial, trivial, (fun _ => trivial), (fun _ => trivial), (fun _ => trivial), (fun _ => trivial), trivial, trivial⟩ ?_
          refine awl_nil ?_
          refine thenQ_n ?_
          refine aw_cond (b := ((decide (n.2.1 < (0 : Int))) || (decide (k ≤ n.2.1)))) (by kernel_rfl) (fun hb => ?_) (fun hb => ?_)
          · have h := h.1 hb
            refine aw_seq ?_
            refine aw_region ?_
            refine awl_runp 1 [6] [] (ob := (True ∧ True)) (st' := (⟨47, [(6, [], .v (.c (.pI (2 : Int))))], []⟩ : St)) (by kernel_rfl) ⟨trivial, trivial⟩ ?_
            refine awl_nil ?_
            refine thenQ_n ?_
            refine aw_ret ?_
            refine blockQ_r ?_
            refine thenQ_r ?_
            exact retQ_r (σ := Int) (R := (fun y => [toV1 (.int .i64) y])) (ob := (True ∧ True)) (2 : Int) (by kernel_rfl) ⟨trivial, trivial⟩ h
          · have h := h.2 hb
            refine aw_conv [.prune [] []] (st' := (⟨47, [], []⟩ : St)) (by kernel_rfl) ?_
            refine aw_skip ?_
            exact rest1 () h
        · have h := h.2 hb
          refine aw_seq ?_
          refine aw_seq ?_
          refine aw_region ?_
          refine awl_runp 2 [5, 7, 10, 25] [5] (ob := (True ∧ True ∧ True)) (st' := (⟨47, [(5, [], .v (.c (.ptr 5 0))), (7, [], .v (.c (.fn 101 [(⟨(.int .i64), i⟩ : Dat)]))), (10, [], .v (.c (.pI n.1))), (25, [], .v (.c (.pB (decide (n.1 = (4 : Int))))))], [(5, [], .box [.pI n.1, .pI n.2.1, .pI n.2.2])]⟩ : St)) (by kernel_rfl) ⟨trivial, trivial, trivial⟩ ?_
          refine awl_nil ?_
          refine thenQ_n ?_
          refine withJoin (σ := Bool) (fun s => (⟨47, [(5, [], .v (.c (.ptr 5 0))), (7, [], .v (.c (.fn 101 [(⟨(.int .i64), i⟩ : Dat)]))), (10, [], .v (.c (.pI n.1))), (25, [], .v (.c (.pB s)))], [(5, [], .box [.pI n.1, .pI n.2.1, .pI n.2.2])]⟩ : St)) (fun s => VC85_k3 i n K s) (fun v25 h => ?_) (fun rest3 => ?_)
          · have h : VC85_k3 i n K v25 := h
            unfold VC85_k3 at h
            refine thenQ_n ?_
            refine withJoin (σ := Unit) (fun s => (⟨47, [], []⟩ : St)) (fun s => VC85_k4 K) (fun s h => ?_) (fun rest2 => ?_)
            · have h : VC85_k4 K := h
              unfold VC85_k4 at h
              exact rest1 () h
            · refine aw_cond (b := v25) (by kernel_rfl) (fun hb => ?_) (fun hb => ?_)
              · have h := h.1 hb
                refine aw_seq ?_
                refine aw_region ?_
                refine awl_runp 3 [5, 7, 28, 30] [5] (ob := (True ∧ True ∧ True ∧ True)) (st' := (⟨47, [(5, [], .v (.c (.ptr 5 0))), (7, [], .v (.c (.fn 101 [(⟨(.int .i64), i⟩ : Dat)]))), (28, [], .v (.c (.fn 101 [(⟨(.int .i64), i⟩ : Dat)]))), (30, [], .v (.c (.pI n.2.1)))], [(5, [], .box [.pI n.1, .pI n.2.1, .pI n.2.2])]⟩ : St)) (by kernel_rfl) ⟨trivial, trivial, trivial, trivial⟩ ?_
                refine awl_callk (p := []) (l := [toV1 (.int .i64) n.2.1]) (cl := [.c (.ad (.int .i64) i)]) false [.d (.int .i64)] [5, 7, 31] [5] (fun (ret31v : Bool) => gcall (α := Bool) (!(!ret31v)) (VC101 n.2.2 i) false (fun (ret37v : Bool) => ((((!ret31v) || (!ret37v)) = true → K (2 : Int)) ∧ (((!ret31v) || (!ret37v)) = false → VC85_k4 K)))) (fun ret31v => [toV1 .bool ret31v]) (fun ret31v => (⟨47, [(5, [], .v (.c (.ptr 5 0))), (7, [], .v (.c (.fn 101 [(⟨(.int .i64), i⟩ : Dat)]))), (31, [], .v (.c (.pB ret31v)))], [(5, [], .box [.pI n.1, .pI n.2.1, .pI n.2.2])]⟩ : St)) (by kernel_rfl) rfl (by kernel_rfl) rfl (by kernel_rfl) Try.call101 (by kernel_rfl) (fun ret31v => by kernel_rfl) (fun e => by cases e) (fun hg => link101 n.2.1 i _ h) (fun hg => noF hg) (fun ret31v h => ?_)
                have h : gcall (α := Bool) (!(!ret31v)) (VC101 n.2.2 i) false (fun (ret37v : Bool) => ((((!ret31v) || (!ret37v)) = true → K (2 : Int)) ∧ (((!ret31v) || (!ret37v)) = false → VC85_k4 K))) := h
                refine awl_runp 5 [33, 34, 36] [] (ob := (True ∧ True ∧ ((!ret31v) = false → True) ∧ ((!ret31v) = false → True) ∧ ((!ret31v) = false → True) ∧ True)) (st' := (⟨47, [(33, [], .v (.c (.pB (!ret31v)))), (34, [(33, false)], .v (.c (.fn 101 [(⟨(.int .i64), i⟩ : Dat)]))), (36, [(33, false)], .v (.c (.pI n.2.2)))], []⟩ : St)) (by kernel_rfl) ⟨trivial, trivial, (fun _ => trivial), (fun _ => trivial), (fun _ => trivial), trivial⟩ ?_
                refine awl_callk (p := [(33, false)]) (l := [toV1 (.int .i64) n.2.2]) (cl := [.c (.ad (.int .i64) i)]) false [.d (.int .i64)] [33, 37] [] (fun (ret37v : Bool) => ((((!ret31v) || (!ret37v)) = true → K (2 : Int)) ∧ (((!ret31v) || (!ret37v)) = false → VC85_k4 K))) (fun ret37v => [toV1 .bool ret37v]) (fun ret37v => (⟨47, [(33, [], .v (.c (.pB (!ret31v)))), (37, [(33, false)], .v (.c (.pB ret37v)))], []⟩ : St)) (by kernel_rfl) rfl (by kernel_rfl) rfl (by kernel_rfl) Try.call101 (by kernel_rfl) (fun ret37v => by kernel_rfl) (fun e => by cases e) (fun hg => link101 n.2.2 i _ (by have := gcall_T h (show (!(!ret31v)) = true from hg); exact this)) (fun hg => ⟨false, by have := gcall_F h (show (!(!ret31v)) = false from hg); exact this⟩) (fun ret37v h => ?_)
                have h : ((((!ret31v) || (!ret37v)) = true → K (2 : Int)) ∧ (((!ret31v) || (!ret37v)) = false → VC85_k4 K)) := h
                refine awl_runp 2 [39] [] (ob := (((!ret31v) = false → True) ∧ True ∧ True)) (st' := (⟨47, [(39, [], .v (.c (.pB ((!ret31v) || (!ret37v)))))], []⟩ : St)) (by kernel_rfl) ⟨(fun _ => trivial), trivial, trivial⟩ ?_
                refine awl_nil ?_
                refine thenQ_n ?_
                refine aw_cond (b := ((!ret31v) || (!ret37v))) (by kernel_rfl) (fun hb => ?_) (fun hb => ?_)
                · have h := h.1 hb
                  refine aw_seq ?_
                  refine aw_region ?_
                  refine awl_runp 1 [6] [] (ob := (True ∧ True)) (st' := (⟨47, [(6, [], .v (.c (.pI (2 : Int))))], []⟩ : St)) (by kernel_rfl) ⟨trivial, trivial⟩ ?_
                  refine awl_nil ?_
                  refine thenQ_n ?_
                  refine aw_ret ?_
                  refine blockQ_r ?_
                  refine thenQ_r ?_
                  exact retQ_r (σ := Int) (R := (fun y => [toV1 (.int .i64) y])) (ob := (True ∧ True)) (2 : Int) (by kernel_rfl) ⟨trivial, trivial⟩ h
                · have h := h.2 hb
                  refine aw_conv [.prune [] []] (st' := (⟨47, [], []⟩ : St)) (by kernel_rfl) ?_
                  refine aw_skip ?_
                  exact rest2 () h
              · have h := h.2 hb
                refine aw_seq ?_
                refine aw_region ?_
                refine awl_runp 2 [5, 7, 40] [5] (ob := (True ∧ True ∧ True)) (st' := (⟨47, [(5, [], .v (.c (.ptr 5 0))), (7, [], .v (.c (.fn 101 [(⟨(.int .i64), i⟩ : Dat)]))), (40, [], .v (.c (.pB (decide (n.1 = (6 : Int))))))], [(5, [], .box [.pI n.1, .pI n.2.1, .pI n.2.2])]⟩ : St)) (by kernel_rfl) ⟨trivial, trivial, trivial⟩ ?_
                refine awl_nil ?_
                refine thenQ_n ?_
                refine aw_cond (b := (decide (n.1 = (6 : Int)))) (by kernel_rfl) (fun hb => ?_) (fun hb => ?_)
                · have h := h.1 hb
                  refine aw_seq ?_
                  refine aw_region ?_
                  refine awl_runp 3 [42, 44] [] (ob := (True ∧ True ∧ True ∧ True)) (st' := (⟨47, [(42, [], .v (.c (.fn 101 [(⟨(.int .i64), i⟩ : Dat)]))), (44, [], .v (.c (.pI n.2.1)))], []⟩ : St)) (by kernel_rfl) ⟨trivial, trivial, trivial, trivial⟩ ?_
                  refine awl_callk (p := []) (l := [toV1 (.int .i64) n.2.1]) (cl := [.c (.ad (.int .i64) i)]) false [.d (.int .i64)] [45] [] (fun (ret45v : Bool) => (((!ret45v) = true → K (2 : Int)) ∧ ((!ret45v) = false → VC85_k4 K))) (fun ret45v => [toV1 .bool ret45v]) (fun ret45v => (⟨47, [(45, [], .v (.c (.pB ret45v)))], []⟩ : St)) (by kernel_rfl) rfl (by kernel_rfl) rfl (by kernel_rfl) Try.call101 (by kernel_rfl) (fun ret45v => by kernel_rfl) (fun e => by cases e) (fun hg => link101 n.2.1 i _ h) (fun hg => noF hg) (fun ret45v h => ?_)
                  have h : (((!ret45v) = true → K (2 : Int)) ∧ ((!ret45v) = false → VC85_k4 K)) := h
                  refine awl_runp 1 [46] [] (ob := (True ∧ True)) (st' := (⟨47, [(46, [], .v (.c (.pB (!ret45v))))], []⟩ : St)) (by kernel_rfl) ⟨trivial, trivial⟩ ?_
                  refine awl_nil ?_
                  refine thenQ_n ?_
                  refine aw_cond (b := (!ret45v)) (by kernel_rfl) (fun hb => ?_) (fun hb => ?_)
                  · have h := h.1 hb
                    refine aw_seq ?_
                    refine aw_region ?_
                    refine awl_runp 1 [6] [] (ob := (True ∧ True)) (st' := (⟨47, [(6, [], .v (.c (.pI (2 : Int))))], []⟩ : St)) (by kernel_rfl) ⟨trivial, trivial⟩ ?_
                    refine awl_nil ?_
                    refine thenQ_n ?_
                    refine aw_ret ?_
                    refine blockQ_r ?_
                    refine thenQ_r ?_
                    exact retQ_r (σ := Int) (R := (fun y => [toV1 (.int .i64) y])) (ob := (True ∧ True)) (2 : Int) (by kernel_rfl) ⟨trivial, trivial⟩ h
                  · have h := h.2 hb
                    refine aw_conv [.prune [] []] (st' := (⟨47, [], []⟩ : St)) (by kernel_rfl) ?_
                    refine aw_skip ?_
                    exact rest2 () h
                · have h := h.2 hb
                  refine aw_seq ?_
                  refine aw_region ?_
                  refine awl_runp 1 [6] [] (ob := (True ∧ True)) (st' := (⟨47, [(6, [], .v (.c (.pI (6 : Int))))], []⟩ : St)) (by kernel_rfl) ⟨trivial, trivial⟩ ?_
                  refine awl_nil ?_
                  refine thenQ_n ?_
                  refine aw_ret ?_
                  refine blockQ_r ?_
                  refine thenQ_r ?_
                  exact retQ_r (σ := Int) (R := (fun y => [toV1 (.int .i64) y])) (ob := (True ∧ True)) (6 : Int) (by kernel_rfl) ⟨trivial, trivial⟩ h
          · refine aw_cond (b := (decide (n.1 = (4 : Int)))) (by kernel_rfl) (fun hb => ?_) (fun hb => ?_)
            · have h := h.1 hb
              refine aw_skip ?_
              exact rest3 (decide (n.1 = (4 : Int))) h
            · have h := h.2 hb
              refine aw_region ?_
              refine awl_runp 2 [5, 7, 10, 25] [5] (ob := (True ∧ True ∧ True)) (st' := (⟨47, [(5, [], .v (.c (.ptr 5 0))), (7, [], .v (.c (.fn 101 [(⟨(.int .i64), i⟩ : Dat)]))), (10, [], .v (.c (.pI n.1))), (25, [], .v (.c (.pB (decide (n.1 = (5 : Int))))))], [(5, [], .box [.pI n.1, .pI n.2.1, .pI n.2.2])]⟩ : St)) (by kernel_rfl) ⟨trivial, trivial, trivial⟩ ?_
              refine awl_nil ?_
              exact rest3 (decide (n.1 = (5 : Int))) h
  · refine aw_cond (b := (decide (n.1 = (1 : Int)))) (by kernel_rfl) (fun hb => ?_) (fun hb => ?_)
    · have h := h.1 hb
      refine aw_skip ?_
      exact rest4 (decide (n.1 = (1 : Int))) h
    · have h := h.2 hb
      refine aw_region ?_
      refine awl_runp 2 [0, 5, 7, 10, 11] [5] (ob := (True ∧ True ∧ True)) (st' := (⟨47, [(0, [], .v (.c (.pI k))), (5, [], .v (.c (.ptr 5 0))), (7, [], .v (.c (.fn 101 [(⟨(.int .i64), i⟩ : Dat)]))), (10, [], .v (.c (.pI n.1))), (11, [], .v (.c (.pB (decide (n.1 = (2 : Int))))))], [(5, [], .box [.pI n.1, .pI n.2.1, .pI n.2.2])]⟩ : St)) (by kernel_rfl) ⟨trivial, trivial, trivial⟩ ?_
      refine awl_nil ?_
      exact rest4 (decide (n.1 = (2 : Int))) h

-- coppicer/sentence.Check
def VC45_k1 (K : Int → Prop) : Prop :=
  K (0 : Int)

def VC45_l1 (k : Int) (l : LN) (K : Int → Prop) (v26 : Int) (X1 : Int → Prop) : Prop :=
  (((decide (v26 < (l.length : Int))) = true → (inIdx v26 l.length ∧ VC85 k v26 (l.getD (v26).toNat z3) (fun (ret34v : Int) => (((!decide (ret34v = (0 : Int))) = true → K ret34v) ∧ ((!decide (ret34v = (0 : Int))) = false → (InR (v26 + (1 : Int)) ∧ X1 (v26 + (1 : Int)))))))) ∧ ((decide (v26 < (l.length : Int))) = false → VC45_k1 K))

def VC45 (k : Int) (l : LN) (K : Int → Prop) : Prop :=
  ((((((decide (k < (1 : Int))) || (decide ((3 : Int) < k))) || (decide ((l.length : Int) = (0 : Int)))) || (decide ((9 : Int) < (l.length : Int)))) = true → K (1 : Int)) ∧ (((((decide (k < (1 : Int))) || (decide ((3 : Int) < k))) || (decide ((l.length : Int) = (0 : Int)))) || (decide ((9 : Int) < (l.length : Int)))) = false → Loop (σ := Int) (fun s X => VC45_l1 k l K s X) (0 : Int)))

set_option maxHeartbeats 4000000 in
theorem link45 (k : Int) (l : LN) (K : Int → Prop) (h : VC45 k l K) : ACalls Try.prog 45 [toV1 (.int .i64) k, toV1 (.sl t3) l] (fun res => ∃ y, res = (fun y => [toV1 (.int .i64) y]) y ∧ K y) := by
  refine acalls_of_aw [(.int .i64)] [.t 4] Try.func45 rfl rfl rfl ?_
  unfold VC45 at h
  refine aw_seq ?_
  refine aw_region ?_
  refine awl_runp 1 [0, 1] [] (ob := (True ∧ True)) (st' := (⟨39, [(0, [], .v (.c (.pI k))), (1, [], .v (.c (.p (.sl t3) l)))], []⟩ : St)) (by kernel_rfl) ⟨trivial, trivial⟩ ?_
  refine awl_nil ?_
  refine thenQ_n ?_
  refine aw_seq ?_
  refine aw_seq ?_
  refine aw_region ?_
  refine awl_runp 16 [0, 1, 23] [] (ob := (True ∧ True ∧ True ∧ ((decide (k < (1 : Int))) = false → True) ∧ ((decide (k < (1 : Int))) = false → True) ∧ True ∧ True ∧ (((decide (k < (1 : Int))) || (decide ((3 : Int) < k))) = false → True) ∧ (((decide (k < (1 : Int))) || (decide ((3 : Int) < k))) = false → True) ∧ (((decide (k < (1 : Int))) || (decide ((3 : Int) < k))) = false → True) ∧ True ∧ True ∧ ((((decide (k < (1 : Int))) || (decide ((3 : Int) < k))) || (decide ((l.length : Int) = (0 : Int)))) = false → True) ∧ ((((decide (k < (1 : Int))) || (decide ((3 : Int) < k))) || (decide ((l.length : Int) = (0 : Int)))) = false → True) ∧ ((((decide (k < (1 : Int))) || (decide ((3 : Int) < k))) || (decide ((l.length : Int) = (0 : Int)))) = false → True) ∧ True ∧ True)) (st' := (⟨39, [(0, [], .v (.c (.pI k))), (1, [], .v (.c (.p (.sl t3) l))), (23, [], .v (.c (.pB ((((decide (k < (1 : Int))) || (decide ((3 : Int) < k))) || (decide ((l.length : Int) = (0 : Int)))) || (decide ((9 : Int) < (l.length : Int)))))))], []⟩ : St)) (by kernel_rfl) ⟨trivial, trivial, trivial, (fun _ => trivial), (fun _ => trivial), trivial, trivial, (fun _ => trivial), (fun _ => trivial), (fun _ => trivial), trivial, trivial, (fun _ => trivial), (fun _ => trivial), (fun _ => trivial), trivial, trivial⟩ ?_
  refine awl_nil ?_
  refine thenQ_n ?_
  refine aw_cond (b := ((((decide (k < (1 : Int))) || (decide ((3 : Int) < k))) || (decide ((l.length : Int) = (0 : Int)))) || (decide ((9 : Int) < (l.length : Int))))) (by kernel_rfl) (fun hb => ?_) (fun hb => ?_)
  · have h := h.1 hb
    refine aw_seq ?_
    refine aw_region ?_
    refine awl_runp 1 [4] [] (ob := (True ∧ True)) (st' := (⟨39, [(4, [], .v (.c (.pI (1 : Int))))], []⟩ : St)) (by kernel_rfl) ⟨trivial, trivial⟩ ?_
    refine awl_nil ?_
    refine thenQ_n ?_
    refine aw_ret ?_
    refine thenQ_r ?_
    exact retQ_r (σ := Int) (R := (fun y => [toV1 (.int .i64) y])) (ob := (True ∧ True)) (1 : Int) (by kernel_rfl) ⟨trivial, trivial⟩ h
  · have h := h.2 hb
    refine aw_skip ?_
    refine thenQ_n ?_
    refine aw_seq ?_
    refine aw_seq ?_
    refine aw_region ?_
    refine awl_runp 3 [0, 24, 25, 26] [] (ob := (True ∧ True ∧ True ∧ True)) (st' := (⟨39, [(0, [], .v (.c (.pI k))), (24, [], .v (.c (.p (.sl t3) l))), (25, [], .v (.c (.pI (l.length : Int)))), (26, [], .v (.c (.pI (0 : Int))))], []⟩ : St)) (by kernel_rfl) ⟨trivial, trivial, trivial, trivial⟩ ?_
    refine awl_nil ?_
    refine thenQ_n ?_
    refine withJoin (σ := Unit) (fun s => (⟨39, [], []⟩ : St)) (fun s => VC45_k1 K) (fun s h => ?_) (fun rest1 => ?_)
    · have h : VC45_k1 K := h
      unfold VC45_k1 at h
      refine thenQ_n ?_
      refine aw_seq ?_
      refine aw_region ?_
      refine awl_runp 1 [4] [] (ob := (True ∧ True)) (st' := (⟨39, [(4, [], .v (.c (.pI (0 : Int))))], []⟩ : St)) (by kernel_rfl) ⟨trivial, trivial⟩ ?_
      refine awl_nil ?_
      refine thenQ_n ?_
      refine aw_ret ?_
      exact retQ_r (σ := Int) (R := (fun y => [toV1 (.int .i64) y])) (ob := (True ∧ True)) (0 : Int) (by kernel_rfl) ⟨trivial, trivial⟩ h
    · refine aw_block ?_
      refine aw_loop (σ := Int) (fun s => (⟨39, [(0, [], .v (.c (.pI k))), (24, [], .v (.c (.p (.sl t3) l))), (25, [], .v (.c (.pI (l.length : Int)))), (26, [], .v (.c (.pI s)))], []⟩ : St)) (fun s X => VC45_l1 k l K s X) (s0 := (0 : Int)) (fun v26 X1 h => ?_) h
      have h : VC45_l1 k l K v26 X1 := h
      unfold VC45_l1 at h
      refine aw_seq ?_
      refine aw_region ?_
      refine awl_runp 1 [0, 24, 25, 26, 27] [] (ob := (True ∧ True)) (st' := (⟨39, [(0, [], .v (.c (.pI k))), (24, [], .v (.c (.p (.sl t3) l))), (25, [], .v (.c (.pI (l.length : Int)))), (26, [], .v (.c (.pI v26))), (27, [], .v (.c (.pB (decide (v26 < (l.length : Int))))))], []⟩ : St)) (by kernel_rfl) ⟨trivial, trivial⟩ ?_
      refine awl_nil ?_
      refine thenQ_n ?_
      refine aw_seq ?_
      refine aw_cond (b := (decide (v26 < (l.length : Int)))) (by kernel_rfl) (fun hb => ?_) (fun hb => ?_)
      · have h := h.1 hb
        refine aw_skip ?_
        refine thenQ_n ?_
        refine aw_seq ?_
        refine aw_block ?_
        refine aw_seq ?_
        refine aw_region ?_
        obtain ⟨o1, h⟩ := h
        refine awl_runp 6 [0, 5, 6, 24, 25, 26] [6] (ob := (True ∧ inIdx v26 l.length ∧ True ∧ True ∧ True ∧ True ∧ True)) (st' := (⟨39, [(0, [], .v (.c (.pI k))), (5, [], .v (.c (.pI v26))), (6, [], .v (.c (.ptr 6 0))), (24, [], .v (.c (.p (.sl t3) l))), (25, [], .v (.c (.pI (l.length : Int)))), (26, [], .v (.c (.pI v26)))], [(6, [], .box [.pI ((l.getD (v26).toNat z3).1), .pI ((l.getD (v26).toNat z3).2.1), .pI ((l.getD (v26).toNat z3).2.2)])]⟩ : St)) (by kernel_rfl) ⟨trivial, o1, trivial, trivial, trivial, trivial, trivial⟩ ?_
        refine awl_nil ?_
        refine thenQ_n ?_
        refine aw_seq ?_
        refine aw_region ?_
        refine awl_runp 3 [0, 24, 25, 26, 31, 32, 33] [] (ob := (True ∧ True ∧ True ∧ True)) (st' := (⟨39, [(0, [], .v (.c (.pI k))), (24, [], .v (.c (.p (.sl t3) l))), (25, [], .v (.c (.pI (l.length : Int)))), (26, [], .v (.c (.pI v26))), (31, [], .v (.c (.pI k))), (32, [], .v (.c (.pI v26))), (33, [], .v (.agg [.pI ((l.getD (v26).toNat z3).1), .pI ((l.getD (v26).toNat z3).2.1), .pI ((l.getD (v26).toNat z3).2.2)]))], []⟩ : St)) (by kernel_rfl) ⟨trivial, trivial, trivial, trivial⟩ ?_
        refine awl_callk (p := []) (l := [toV1 (.int .i64) k, toV1 (.int .i64) v26, toV1 t3 (l.getD (v26).toNat z3)]) (cl := []) false [.d (.int .i64), .d (.int .i64), .d t3] [0, 24, 25, 26, 34] [] (fun (ret34v : Int) => (((!decide (ret34v = (0 : Int))) = true → K ret34v) ∧ ((!decide (ret34v = (0 : Int))) = false → (InR (v26 + (1 : Int)) ∧ X1 (v26 + (1 : Int)))))) (fun ret34v => [toV1 (.int .i64) ret34v]) (fun ret34v => (⟨39, [(0, [], .v (.c (.pI k))), (24, [], .v (.c (.p (.sl t3) l))), (25, [], .v (.c (.pI (l.length : Int)))), (26, [], .v (.c (.pI v26))), (34, [], .v (.c (.pI ret34v)))], []⟩ : St)) (by kernel_rfl) rfl (by kernel_rfl) rfl (by kernel_rfl) Try.call85 (by kernel_rfl) (fun ret34v => by kernel_rfl) (fun e => by cases e) (fun hg => link85 k v26 (l.getD (v26).toNat z3) _ h) (fun hg => noF hg) (fun ret34v h => ?_)
        have h : (((!decide (ret34v = (0 : Int))) = true → K ret34v) ∧ ((!decide (ret34v = (0 : Int))) = false → (InR (v26 + (1 : Int)) ∧ X1 (v26 + (1 : Int))))) := h
        refine awl_runp 1 [0, 7, 24, 25, 26] [] (ob := (True ∧ True)) (st' := (⟨39, [(0, [], .v (.c (.pI k))), (7, [], .v (.c (.pI ret34v))), (24, [], .v (.c (.p (.sl t3) l))), (25, [], .v (.c (.pI (l.length : Int)))), (26, [], .v (.c (.pI v26)))], []⟩ : St)) (by kernel_rfl) ⟨trivial, trivial⟩ ?_
        refine awl_nil ?_
        refine thenQ_n ?_
        refine aw_seq ?_
        refine aw_region ?_
        refine awl_runp 2 [0, 7, 24, 25, 26, 36] [] (ob := (True ∧ True ∧ True)) (st' := (⟨39, [(0, [], .v (.c (.pI k))), (7, [], .v (.c (.pI ret34v))), (24, [], .v (.c (.p (.sl t3) l))), (25, [], .v (.c (.pI (l.length : Int)))), (26, [], .v (.c (.pI v26))), (36, [], .v (.c (.pB (!decide (ret34v = (0 : Int))))))], []⟩ : St)) (by kernel_rfl) ⟨trivial, trivial, trivial⟩ ?_
        refine awl_nil ?_
        refine thenQ_n ?_
        refine aw_cond (b := (!decide (ret34v = (0 : Int)))) (by kernel_rfl) (fun hb => ?_) (fun hb => ?_)
        · have h := h.1 hb
          refine aw_seq ?_
          refine aw_region ?_
          refine awl_runp 2 [4] [] (ob := (True ∧ True ∧ True)) (st' := (⟨39, [(4, [], .v (.c (.pI ret34v)))], []⟩ : St)) (by kernel_rfl) ⟨trivial, trivial, trivial⟩ ?_
          refine awl_nil ?_
          refine thenQ_n ?_
          refine aw_ret ?_
          refine blockQ_r ?_
          refine thenQ_r ?_
          refine thenQ_r ?_
          refine blockQ_r ?_
          refine thenQ_r ?_
          exact retQ_r (σ := Int) (R := (fun y => [toV1 (.int .i64) y])) (ob := (True ∧ True)) ret34v (by kernel_rfl) ⟨trivial, trivial⟩ h
        · have h := h.2 hb
          refine aw_skip ?_
          refine blockQ_n ?_
          refine thenQ_n ?_
          refine aw_region ?_
          obtain ⟨o1, h⟩ := h
          refine awl_runp 2 [0, 24, 25, 26] [] (ob := (InR (v26 + (1 : Int)) ∧ True ∧ True)) (st' := (⟨39, [(0, [], .v (.c (.pI k))), (24, [], .v (.c (.p (.sl t3) l))), (25, [], .v (.c (.pI (l.length : Int)))), (26, [], .v (.c (.pI (v26 + (1 : Int)))))], []⟩ : St)) (by kernel_rfl) ⟨o1, trivial, trivial⟩ ?_
          refine awl_nil ?_
          exact thenQ_n ⟨(v26 + (1 : Int)), rfl, h⟩
      · have h := h.2 hb
        refine aw_conv [.prune [] []] (st' := (⟨39, [], []⟩ : St)) (by kernel_rfl) ?_
        refine aw_exit ?_
        refine thenQ_x ?_
        refine thenQ_x ?_
        refine blockQ_hit ?_
        exact rest1 () h

-- coppicer/sentence.Hollow
def VC49_k2 (K : LB × LB → Prop) (empty : LB) (nonev : LB) : Prop :=
  K (empty, nonev)

def VC49_k3 (v16 : Int) (X1 : Int × LB × LB → Prop) (empty2 : LB) (nonev2 : LB) : Prop :=
  (InR (v16 + (1 : Int)) ∧ X1 ((v16 + (1 : Int)), empty2, nonev2))

def VC49_k5 (v16 : Int) (X1 : Int × LB × LB → Prop) (empty2 : LB) (nonev2 : LB) : Prop :=
  VC49_k3 v16 X1 empty2 nonev2

def VC49_k6 (v16 : Int) (X1 : Int × LB × LB → Prop) (empty2 : LB) (nonev2 : LB) : Prop :=
  VC49_k5 v16 X1 empty2 nonev2

def VC49_k7 (v16 : Int) (X1 : Int × LB × LB → Prop) (empty2 : LB) (nonev2 : LB) : Prop :=
  VC49_k6 v16 X1 empty2 nonev2

def VC49_k4 (l : LN) (v16 : Int) (empty : LB) (nonev : LB) (X1 : Int × LB × LB → Prop) (v28 : Bool) : Prop :=
  ((v28 = true → (inIdx v16 empty.length ∧ VC49_k5 v16 X1 (empty.set ((v16).toNat) true) nonev)) ∧ (v28 = false → (((decide ((l.getD (v16).toNat z3).1 = (4 : Int))) = true → (inIdx ((l.getD (v16).toNat z3).2.1) empty.length ∧ inIdx ((l.getD (v16).toNat z3).2.1) nonev.length ∧ ((((empty.getD (((l.getD (v16).toNat z3).2.1).toNat) false) = true → inIdx ((l.getD (v16).toNat z3).2.2) empty.length) ∧ (((nonev.getD (((l.getD (v16).toNat z3).2.1).toNat) false) = false → inIdx ((l.getD (v16).toNat z3).2.2) nonev.length) ∧ (inIdx v16 empty.length ∧ (inIdx v16 nonev.length ∧ VC49_k6 v16 X1 (empty.set ((v16).toNat) ((empty.getD (((l.getD (v16).toNat z3).2.1).toNat) false) && (empty.getD (((l.getD (v16).toNat z3).2.2).toNat) false))) (nonev.set ((v16).toNat) ((nonev.getD (((l.getD (v16).toNat z3).2.1).toNat) false) || (nonev.getD (((l.getD (v16).toNat z3).2.2).toNat) false))))))) ∧ (((empty.getD (((l.getD (v16).toNat z3).2.1).toNat) false) = true → inIdx ((l.getD (v16).toNat z3).2.2) empty.length) ∧ ((nonev.getD (((l.getD (v16).toNat z3).2.1).toNat) false) = false → inIdx ((l.getD (v16).toNat z3).2.2) nonev.length) ∧ (inIdx v16 empty.length ∧ (inIdx v16 nonev.length ∧ VC49_k6 v16 X1 (empty.set ((v16).toNat) ((empty.getD (((l.getD (v16).toNat z3).2.1).toNat) false) && (empty.getD (((l.getD (v16).toNat z3).2.2).toNat) false))) (nonev.set ((v16).toNat) ((nonev.getD (((l.getD (v16).toNat z3).2.1).toNat) false) || (nonev.getD (((l.getD (v16).toNat z3).2.2).toNat) false))))))))) ∧ ((decide ((l.getD (v16).toNat z3).1 = (4 : Int))) = false → (((decide ((l.getD (v16).toNat z3).1 = (5 : Int))) = true → (inIdx ((l.getD (v16).toNat z3).2.1) empty.length ∧ inIdx ((l.getD (v16).toNat z3).2.1) nonev.length ∧ ((((empty.getD (((l.getD (v16).toNat z3).2.1).toNat) false) = false → inIdx ((l.getD (v16).toNat z3).2.2) empty.length) ∧ (((nonev.getD (((l.getD (v16).toNat z3).2.1).toNat) false) = true → inIdx ((l.getD (v16).toNat z3).2.2) nonev.length) ∧ (inIdx v16 empty.length ∧ (inIdx v16 nonev.length ∧ VC49_k7 v16 X1 (empty.set ((v16).toNat) ((empty.getD (((l.getD (v16).toNat z3).2.1).toNat) false) || (empty.getD (((l.getD (v16).toNat z3).2.2).toNat) false))) (nonev.set ((v16).toNat) ((nonev.getD (((l.getD (v16).toNat z3).2.1).toNat) false) && (nonev.getD (((l.getD (v16).toNat z3).2.2).toNat) false))))))) ∧ (((empty.getD (((l.getD (v16).toNat z3).2.1).toNat) false) = false → inIdx ((l.getD (v16).toNat z3).2.2) empty.length) ∧ ((nonev.getD (((l.getD (v16).toNat z3).2.1).toNat) false) = true → inIdx ((l.getD (v16).toNat z3).2.2) nonev.length) ∧ (inIdx v16 empty.length ∧ (inIdx v16 nonev.length ∧ VC49_k7 v16 X1 (empty.set ((v16).toNat) ((empty.getD (((l.getD (v16).toNat z3).2.1).toNat) false) || (empty.getD (((l.getD (v16).toNat z3).2.2).toNat) false))) (nonev.set ((v16).toNat) ((nonev.getD (((l.getD (v16).toNat z3).2.1).toNat) false) && (nonev.getD (((l.getD (v16).toNat z3).2.2).toNat) false))))))))) ∧ ((decide ((l.getD (v16).toNat z3).1 = (5 : Int))) = false → VC49_k7 v16 X1 empty nonev))))))

def VC49_l1 (l : LN) (K : LB × LB → Prop) (v16 : Int) (empty : LB) (nonev : LB) (X1 : Int × LB × LB → Prop) : Prop :=
  (((decide (v16 < (l.length : Int))) = true → (inIdx v16 l.length ∧ (((decide ((l.getD (v16).toNat z3).1 = (1 : Int))) = true → (inIdx v16 nonev.length ∧ VC49_k3 v16 X1 empty (nonev.set ((v16).toNat) true))) ∧ ((decide ((l.getD (v16).toNat z3).1 = (1 : Int))) = false → (((decide ((l.getD (v16).toNat z3).1 = (2 : Int))) = true → VC49_k4 l v16 empty nonev X1 (decide ((l.getD (v16).toNat z3).1 = (2 : Int)))) ∧ ((decide ((l.getD (v16).toNat z3).1 = (2 : Int))) = false → VC49_k4 l v16 empty nonev X1 (decide ((l.getD (v16).toNat z3).1 = (6 : Int))))))))) ∧ ((decide (v16 < (l.length : Int))) = false → VC49_k2 K empty nonev))

def VC49_k1 (l : LN) (K : LB × LB → Prop) : Prop :=
  Loop (σ := Int × LB × LB) (fun s X => VC49_l1 l K s.1 s.2.1 s.2.2 X) ((0 : Int), (List.replicate ((l.length : Int)).toNat false), (List.replicate ((l.length : Int)).toNat false))

def VC49 (l : LN) (K : LB × LB → Prop) : Prop :=
  (room (l.length : Int) ∧ (room (l.length : Int) ∧ VC49_k1 l K))

set_option maxHeartbeats 4000000 in
theorem link49 (l : LN) (K : LB × LB → Prop) (h : VC49 l K) : ACalls Try.prog 49 [toV1 (.sl t3) l] (fun res => ∃ y, res = (fun y => [toV1 (.sl .bool) y.1, toV1 (.sl .bool) y.2]) y ∧ K y) := by
  refine acalls_of_aw [(.sl .bool), (.sl .bool)] [.t 2, .t 3] Try.func49 rfl rfl rfl ?_
  unfold VC49 at h
  refine aw_seq ?_
  refine aw_region ?_
  refine awl_runp 2 [0] [] (ob := (True ∧ True ∧ True)) (st' := (⟨101, [(0, [], .v (.c (.p (.sl t3) l)))], []⟩ : St)) (by kernel_rfl) ⟨trivial, trivial, trivial⟩ ?_
  refine awl_nil ?_
  refine thenQ_n ?_
  refine aw_seq ?_
  refine withJoin (σ := Unit) (fun s => (⟨101, [(0, [], .v (.c (.p (.sl t3) l))), (4, [], .v (.c (.own 10))), (5, [], .v (.c (.own 13)))], [(10, [], .arr 4 .bool (List.replicate ((l.length : Int)).toNat false)), (13, [], .arr 4 .bool (List.replicate ((l.length : Int)).toNat false))]⟩ : St)) (fun s => VC49_k1 l K) (fun s h => ?_) (fun rest7 => ?_)
  · have h : VC49_k1 l K := h
    unfold VC49_k1 at h
    refine thenQ_n ?_
    refine aw_seq ?_
    refine aw_seq ?_
    refine aw_region ?_
    refine awl_runp 3 [4, 5, 14, 15, 16] [10, 13] (ob := (True ∧ True ∧ True ∧ True)) (st' := (⟨101, [(4, [], .v (.c (.own 10))), (5, [], .v (.c (.own 13))), (14, [], .v (.c (.p (.sl t3) l))), (15, [], .v (.c (.pI (l.length : Int)))), (16, [], .v (.c (.pI (0 : Int))))], [(10, [], .arr 4 .bool (List.replicate ((l.length : Int)).toNat false)), (13, [], .arr 4 .bool (List.replicate ((l.length : Int)).toNat false))]⟩ : St)) (by kernel_rfl) ⟨trivial, trivial, trivial, trivial⟩ ?_
    refine awl_nil ?_
    refine thenQ_n ?_
    refine withJoin (σ := LB × LB) (fun s => (⟨101, [(4, [], .v (.c (.own 10))), (5, [], .v (.c (.own 13)))], [(10, [], .arr 4 .bool s.1), (13, [], .arr 4 .bool s.2)]⟩ : St)) (fun s => VC49_k2 K s.1 s.2) (fun s h => ?_) (fun rest1 => ?_)
    · obtain ⟨empty, nonev⟩ := s
      have h : VC49_k2 K empty nonev := h
      unfold VC49_k2 at h
      refine thenQ_n ?_
      refine aw_seq ?_
      refine aw_region ?_
      refine awl_runp 4 [2, 3] [10, 13] (ob := (True ∧ True ∧ True ∧ True ∧ True)) (st' := (⟨101, [(2, [], .v (.c (.own 10))), (3, [], .v (.c (.own 13)))], [(10, [], .arr 4 .bool empty), (13, [], .arr 4 .bool nonev)]⟩ : St)) (by kernel_rfl) ⟨trivial, trivial, trivial, trivial, trivial⟩ ?_
      refine awl_nil ?_
      refine thenQ_n ?_
      refine aw_conv [.freeze 10, .freeze 13] (st' := (⟨101, [(2, [], .v (.c (.p (.sl .bool) empty))), (3, [], .v (.c (.p (.sl .bool) nonev)))], []⟩ : St)) (by kernel_rfl) ?_
      refine aw_ret ?_
      exact retQ_r (σ := LB × LB) (R := (fun y => [toV1 (.sl .bool) y.1, toV1 (.sl .bool) y.2])) (ob := (True ∧ True ∧ True)) (empty, nonev) (by kernel_rfl) ⟨trivial, trivial, trivial⟩ h
    · refine aw_block ?_
      refine aw_loop (σ := Int × LB × LB) (fun s => (⟨101, [(4, [], .v (.c (.own 10))), (5, [], .v (.c (.own 13))), (14, [], .v (.c (.p (.sl t3) l))), (15, [], .v (.c (.pI (l.length : Int)))), (16, [], .v (.c (.pI s.1)))], [(10, [], .arr 4 .bool s.2.1), (13, [], .arr 4 .bool s.2.2)]⟩ : St)) (fun s X => VC49_l1 l K s.1 s.2.1 s.2.2 X) (s0 := ((0 : Int), (List.replicate ((l.length : Int)).toNat false), (List.replicate ((l.length : Int)).toNat false))) (fun s X1 h => ?_) h
      obtain ⟨v16, empty, nonev⟩ := s
      have h : VC49_l1 l K v16 empty nonev X1 := h
      unfold VC49_l1 at h
      refine aw_seq ?_
      refine aw_region ?_
      refine awl_runp 1 [4, 5, 14, 15, 16, 17] [10, 13] (ob := (True ∧ True)) (st' := (⟨101, [(4, [], .v (.c (.own 10))), (5, [], .v (.c (.own 13))), (14, [], .v (.c (.p (.sl t3) l))), (15, [], .v (.c (.pI (l.length : Int)))), (16, [], .v (.c (.pI v16))), (17, [], .v (.c (.pB (decide (v16 < (l.length : Int))))))], [(10, [], .arr 4 .bool empty), (13, [], .arr 4 .bool nonev)]⟩ : St)) (by kernel_rfl) ⟨trivial, trivial⟩ ?_
      refine awl_nil ?_
      refine thenQ_n ?_
      refine aw_seq ?_
      refine aw_cond (b := (decide (v16 < (l.length : Int)))) (by kernel_rfl) (fun hb => ?_) (fun hb => ?_)
      · have h := h.1 hb
        refine aw_skip ?_
        refine thenQ_n ?_
        refine aw_seq ?_
        refine aw_block ?_
        refine aw_seq ?_
        refine aw_region ?_
        obtain ⟨o1, h⟩ := h
        refine awl_runp 6 [4, 5, 6, 7, 14, 15, 16] [7, 10, 13] (ob := (True ∧ inIdx v16 l.length ∧ True ∧ True ∧ True ∧ True ∧ True)) (st' := (⟨101, [(4, [], .v (.c (.own 10))), (5, [], .v (.c (.own 13))), (6, [], .v (.c (.pI v16))), (7, [], .v (.c (.ptr 7 0))), (14, [], .v (.c (.p (.sl t3) l))), (15, [], .v (.c (.pI (l.length : Int)))), (16, [], .v (.c (.pI v16)))], [(7, [], .box [.pI ((l.getD (v16).toNat z3).1), .pI ((l.getD (v16).toNat z3).2.1), .pI ((l.getD (v16).toNat z3).2.2)]), (10, [], .arr 4 .bool empty), (13, [], .arr 4 .bool nonev)]⟩ : St)) (by kernel_rfl) ⟨trivial, o1, trivial, trivial, trivial, trivial, trivial⟩ ?_
        refine awl_nil ?_
        refine thenQ_n ?_
        refine aw_seq ?_
        refine aw_region ?_
        refine awl_runp 2 [4, 5, 6, 7, 14, 15, 16, 22] [7, 10, 13] (ob := (True ∧ True ∧ True)) (st' := (⟨101, [(4, [], .v (.c (.own 10))), (5, [], .v (.c (.own 13))), (6, [], .v (.c (.pI v16))), (7, [], .v (.c (.ptr 7 0))), (14, [], .v (.c (.p (.sl t3) l))), (15, [], .v (.c (.pI (l.length : Int)))), (16, [], .v (.c (.pI v16))), (22, [], .v (.c (.pI ((l.getD (v16).toNat z3).1))))], [(7, [], .box [.pI ((l.getD (v16).toNat z3).1), .pI ((l.getD (v16).toNat z3).2.1), .pI ((l.getD (v16).toNat z3).2.2)]), (10, [], .arr 4 .bool empty), (13, [], .arr 4 .bool nonev)]⟩ : St)) (by kernel_rfl) ⟨trivial, trivial, trivial⟩ ?_
        refine awl_nil ?_
        refine thenQ_n ?_
        refine aw_block ?_
        refine aw_seq ?_
        refine aw_region ?_
        refine awl_runp 2 [4, 5, 6, 7, 14, 15, 16, 22, 23] [7, 10, 13] (ob := (True ∧ True ∧ True)) (st' := (⟨101, [(4, [], .v (.c (.own 10))), (5, [], .v (.c (.own 13))), (6, [], .v (.c (.pI v16))), (7, [], .v (.c (.ptr 7 0))), (14, [], .v (.c (.p (.sl t3) l))), (15, [], .v (.c (.pI (l.length : Int)))), (16, [], .v (.c (.pI v16))), (22, [], .v (.c (.pI ((l.getD (v16).toNat z3).1)))), (23, [], .v (.c (.pB (decide ((l.getD (v16).toNat z3).1 = (1 : Int))))))], [(7, [], .box [.pI ((l.getD (v16).toNat z3).1), .pI ((l.getD (v16).toNat z3).2.1), .pI ((l.getD (v16).toNat z3).2.2)]), (10, [], .arr 4 .bool empty), (13, [], .arr 4 .bool nonev)]⟩ : St)) (by kernel_rfl) ⟨trivial, trivial, trivial⟩ ?_
        refine awl_nil ?_
        refine thenQ_n ?_
        refine withJoin (σ := LB × LB) (fun s => (⟨101, [(4, [], .v (.c (.own 10))), (5, [], .v (.c (.own 13))), (14, [], .v (.c (.p (.sl t3) l))), (15, [], .v (.c (.pI (l.length : Int)))), (16, [], .v (.c (.pI v16)))], [(10, [], .arr 4 .bool s.1), (13, [], .arr 4 .bool s.2)]⟩ : St)) (fun s => VC49_k3 v16 X1 s.1 s.2) (fun s h => ?_) (fun rest2 => ?_)
        · obtain ⟨empty2, nonev2⟩ := s
          have h : VC49_k3 v16 X1 empty2 nonev2 := h
          unfold VC49_k3 at h
          refine blockQ_n ?_
          refine blockQ_n ?_
          refine thenQ_n ?_
          refine aw_region ?_
          obtain ⟨o1, h⟩ := h
          refine awl_runp 2 [4, 5, 14, 15, 16] [10, 13] (ob := (InR (v16 + (1 : Int)) ∧ True ∧ True)) (st' := (⟨101, [(4, [], .v (.c (.own 10))), (5, [], .v (.c (.own 13))), (14, [], .v (.c (.p (.sl t3) l))), (15, [], .v (.c (.pI (l.length : Int)))), (16, [], .v (.c (.pI (v16 + (1 : Int)))))], [(10, [], .arr 4 .bool empty2), (13, [], .arr 4 .bool nonev2)]⟩ : St)) (by kernel_rfl) ⟨o1, trivial, trivial⟩ ?_
          refine awl_nil ?_
          exact thenQ_n ⟨((v16 + (1 : Int)), empty2, nonev2), rfl, h⟩
        · refine aw_cond (b := (decide ((l.getD (v16).toNat z3).1 = (1 : Int)))) (by kernel_rfl) (fun hb => ?_) (fun hb => ?_)
          · have h := h.1 hb
            refine aw_region ?_
            obtain ⟨o1, h⟩ := h
            refine awl_runp 4 [4, 5, 14, 15, 16] [10, 13] (ob := (True ∧ True ∧ inIdx v16 nonev.length ∧ True ∧ True)) (st' := (⟨101, [(4, [], .v (.c (.own 10))), (5, [], .v (.c (.own 13))), (14, [], .v (.c (.p (.sl t3) l))), (15, [], .v (.c (.pI (l.length : Int)))), (16, [], .v (.c (.pI v16)))], [(10, [], .arr 4 .bool empty), (13, [], .arr 4 .bool (nonev.set ((v16).toNat) true))]⟩ : St)) (by kernel_rfl) ⟨trivial, trivial, o1, trivial, trivial⟩ ?_
            refine awl_nil ?_
            exact rest2 (empty, (nonev.set ((v16).toNat) true)) h
          · have h := h.2 hb
            refine aw_seq ?_
            refine aw_seq ?_
            refine aw_region ?_
            refine awl_runp 2 [4, 5, 6, 7, 14, 15, 16, 22, 28] [7, 10, 13] (ob := (True ∧ True ∧ True)) (st' := (⟨101, [(4, [], .v (.c (.own 10))), (5, [], .v (.c (.own 13))), (6, [], .v (.c (.pI v16))), (7, [], .v (.c (.ptr 7 0))), (14, [], .v (.c (.p (.sl t3) l))), (15, [], .v (.c (.pI (l.length : Int)))), (16, [], .v (.c (.pI v16))), (22, [], .v (.c (.pI ((l.getD (v16).toNat z3).1)))), (28, [], .v (.c (.pB (decide ((l.getD (v16).toNat z3).1 = (2 : Int))))))], [(7, [], .box [.pI ((l.getD (v16).toNat z3).1), .pI ((l.getD (v16).toNat z3).2.1), .pI ((l.getD (v16).toNat z3).2.2)]), (10, [], .arr 4 .bool empty), (13, [], .arr 4 .bool nonev)]⟩ : St)) (by kernel_rfl) ⟨trivial, trivial, trivial⟩ ?_
            refine awl_nil ?_
            refine thenQ_n ?_
            refine withJoin (σ := Bool) (fun s => (⟨101, [(4, [], .v (.c (.own 10))), (5, [], .v (.c (.own 13))), (6, [], .v (.c (.pI v16))), (7, [], .v (.c (.ptr 7 0))), (14, [], .v (.c (.p (.sl t3) l))), (15, [], .v (.c (.pI (l.length : Int)))), (16, [], .v (.c (.pI v16))), (22, [], .v (.c (.pI ((l.getD (v16).toNat z3).1)))), (28, [], .v (.c (.pB s)))], [(7, [], .box [.pI ((l.getD (v16).toNat z3).1), .pI ((l.getD (v16).toNat z3).2.1), .pI ((l.getD (v16).toNat z3).2.2)]), (10, [], .arr 4 .bool empty), (13, [], .arr 4 .bool nonev)]⟩ : St)) (fun s => VC49_k4 l v16 empty nonev X1 s) (fun v28 h => ?_) (fun rest6 => ?_)
            · have h : VC49_k4 l v16 empty nonev X1 v28 := h
              unfold VC49_k4 at h
              refine thenQ_n ?_
              refine withJoin (σ := LB × LB) (fun s => (⟨101, [(4, [], .v (.c (.own 10))), (5, [], .v (.c (.own 13))), (14, [], .v (.c (.p (.sl t3) l))), (15, [], .v (.c (.pI (l.length : Int)))), (16, [], .v (.c (.pI v16)))], [(10, [], .arr 4 .bool s.1), (13, [], .arr 4 .bool s.2)]⟩ : St)) (fun s => VC49_k5 v16 X1 s.1 s.2) (fun s h => ?_) (fun rest3 => ?_)
              · obtain ⟨empty2, nonev2⟩ := s
                have h : VC49_k5 v16 X1 empty2 nonev2 := h
                unfold VC49_k5 at h
                exact rest2 (empty2, nonev2) h
              · refine aw_cond (b := v28) (by kernel_rfl) (fun hb => ?_) (fun hb => ?_)
                · have h := h.1 hb
                  refine aw_region ?_
                  obtain ⟨o1, h⟩ := h
                  refine awl_runp 4 [4, 5, 14, 15, 16] [10, 13] (ob := (True ∧ True ∧ inIdx v16 empty.length ∧ True ∧ True)) (st' := (⟨101, [(4, [], .v (.c (.own 10))), (5, [], .v (.c (.own 13))), (14, [], .v (.c (.p (.sl t3) l))), (15, [], .v (.c (.pI (l.length : Int)))), (16, [], .v (.c (.pI v16)))], [(10, [], .arr 4 .bool (empty.set ((v16).toNat) true)), (13, [], .arr 4 .bool nonev)]⟩ : St)) (by kernel_rfl) ⟨trivial, trivial, o1, trivial, trivial⟩ ?_
                  refine awl_nil ?_
                  exact rest3 ((empty.set ((v16).toNat) true), nonev) h
                · have h := h.2 hb
                  refine aw_seq ?_
                  refine aw_region ?_
                  refine awl_runp 2 [4, 5, 6, 7, 14, 15, 16, 22, 34] [7, 10, 13] (ob := (True ∧ True ∧ True)) (st' := (⟨101, [(4, [], .v (.c (.own 10))), (5, [], .v (.c (.own 13))), (6, [], .v (.c (.pI v16))), (7, [], .v (.c (.ptr 7 0))), (14, [], .v (.c (.p (.sl t3) l))), (15, [], .v (.c (.pI (l.length : Int)))), (16, [], .v (.c (.pI v16))), (22, [], .v (.c (.pI ((l.getD (v16).toNat z3).1)))), (34, [], .v (.c (.pB (decide ((l.getD (v16).toNat z3).1 = (4 : Int))))))], [(7, [], .box [.pI ((l.getD (v16).toNat z3).1), .pI ((l.getD (v16).toNat z3).2.1), .pI ((l.getD (v16).toNat z3).2.2)]), (10, [], .arr 4 .bool empty), (13, [], .arr 4 .bool nonev)]⟩ : St)) (by kernel_rfl) ⟨trivial, trivial, trivial⟩ ?_
                  refine awl_nil ?_
                  refine thenQ_n ?_
                  refine withJoin (σ := LB × LB) (fun s => (⟨101, [(4, [], .v (.c (.own 10))), (5, [], .v (.c (.own 13))), (14, [], .v (.c (.p (.sl t3) l))), (15, [], .v (.c (.pI (l.length : Int)))), (16, [], .v (.c (.pI v16)))], [(10, [], .arr 4 .bool s.1), (13, [], .arr 4 .bool s.2)]⟩ : St)) (fun s => VC49_k6 v16 X1 s.1 s.2) (fun s h => ?_) (fun rest4 => ?_)
                  · obtain ⟨empty2, nonev2⟩ := s
                    have h : VC49_k6 v16 X1 empty2 nonev2 := h
                    unfold VC49_k6 at h
                    exact rest3 (empty2, nonev2) h
                  · refine aw_cond (b := (decide ((l.getD (v16).toNat z3).1 = (4 : Int)))) (by kernel_rfl) (fun hb => ?_) (fun hb => ?_)
                    · have h := h.1 hb
                      refine awd_begin [10, 13] (by kernel_rfl) ?_
                      refine awd_memo ((inIdx v16 nonev.length ∧ VC49_k6 v16 X1 (empty.set ((v16).toNat) ((empty.getD (((l.getD (v16).toNat z3).2.1).toNat) false) && (empty.getD (((l.getD (v16).toNat z3).2.2).toNat) false))) (nonev.set ((v16).toNat) ((nonev.getD (((l.getD (v16).toNat z3).2.1).toNat) false) || (nonev.getD (((l.getD (v16).toNat z3).2.2).toNat) false))))) [28, 27, 26, 25, 24, 23, 22, 21, 20, 15, 14, 13, 12, 11, 10, 9, 8, 19, 18, 17, 16, 7, 6, 5, 4, 3, 2, 1, 0] (⟨101, [(4, [], .v (.c (.own 10))), (5, [], .v (.c (.own 13))), (14, [], .v (.c (.p (.sl t3) l))), (15, [], .v (.c (.pI (l.length : Int)))), (16, [], .v (.c (.pI v16))), (38, [], .v (.c (.own 13))), (39, [], .v (.c (.pI v16))), (51, [], .v (.c (.pB ((empty.getD (((l.getD (v16).toNat z3).2.1).toNat) false) && (empty.getD (((l.getD (v16).toNat z3).2.2).toNat) false))))), (63, [], .v (.c (.pB ((nonev.getD (((l.getD (v16).toNat z3).2.1).toNat) false) || (nonev.getD (((l.getD (v16).toNat z3).2.2).toNat) false))))), (64, [], .v (.c (.el 10 ((v16).toNat) 1)))], [(10, [], .arr 4 .bool empty), (13, [], .arr 4 .bool nonev)]⟩ : St) (fun h => ?_) (fun m1 => ?_)
                      · refine awd_one (i := 29) (by kernel_rfl) ?_
                        refine adop_stepp [4, 5, 14, 15, 16, 38, 39, 63] [10, 13] (ob := True) (st' := (⟨101, [(4, [], .v (.c (.own 10))), (5, [], .v (.c (.own 13))), (14, [], .v (.c (.p (.sl t3) l))), (15, [], .v (.c (.pI (l.length : Int)))), (16, [], .v (.c (.pI v16))), (38, [], .v (.c (.own 13))), (39, [], .v (.c (.pI v16))), (63, [], .v (.c (.pB ((nonev.getD (((l.getD (v16).toNat z3).2.1).toNat) false) || (nonev.getD (((l.getD (v16).toNat z3).2.2).toNat) false)))))], [(10, [], .arr 4 .bool (empty.set ((v16).toNat) ((empty.getD (((l.getD (v16).toNat z3).2.1).toNat) false) && (empty.getD (((l.getD (v16).toNat z3).2.2).toNat) false)))), (13, [], .arr 4 .bool nonev)]⟩ : St)) rfl (by kernel_rfl) trivial ?_
                        obtain ⟨o1, h⟩ := h
                        refine awd_runp (by kernel_rfl) [30] [4, 5, 14, 15, 16, 63, 65] [10, 13] (ob := (inIdx v16 nonev.length ∧ True)) (done' := [30, 29, 28, 27, 26, 25, 24, 23, 22, 21, 20, 15, 14, 13, 12, 11, 10, 9, 8, 19, 18, 17, 16, 7, 6, 5, 4, 3, 2, 1, 0]) (st' := (⟨101, [(4, [], .v (.c (.own 10))), (5, [], .v (.c (.own 13))), (14, [], .v (.c (.p (.sl t3) l))), (15, [], .v (.c (.pI (l.length : Int)))), (16, [], .v (.c (.pI v16))), (63, [], .v (.c (.pB ((nonev.getD (((l.getD (v16).toNat z3).2.1).toNat) false) || (nonev.getD (((l.getD (v16).toNat z3).2.2).toNat) false))))), (65, [], .v (.c (.el 13 ((v16).toNat) 1)))], [(10, [], .arr 4 .bool (empty.set ((v16).toNat) ((empty.getD (((l.getD (v16).toNat z3).2.1).toNat) false) && (empty.getD (((l.getD (v16).toNat z3).2.2).toNat) false)))), (13, [], .arr 4 .bool nonev)]⟩ : St)) (by kernel_rfl) ⟨o1, trivial⟩ ?_
                        refine awd_one (i := 31) (by kernel_rfl) ?_
                        refine adop_stepp [4, 5, 14, 15, 16] [10, 13] (ob := True) (st' := (⟨101, [(4, [], .v (.c (.own 10))), (5, [], .v (.c (.own 13))), (14, [], .v (.c (.p (.sl t3) l))), (15, [], .v (.c (.pI (l.length : Int)))), (16, [], .v (.c (.pI v16)))], [(10, [], .arr 4 .bool (empty.set ((v16).toNat) ((empty.getD (((l.getD (v16).toNat z3).2.1).toNat) false) && (empty.getD (((l.getD (v16).toNat z3).2.2).toNat) false)))), (13, [], .arr 4 .bool (nonev.set ((v16).toNat) ((nonev.getD (((l.getD (v16).toNat z3).2.1).toNat) false) || (nonev.getD (((l.getD (v16).toNat z3).2.2).toNat) false))))]⟩ : St)) rfl (by kernel_rfl) trivial ?_
                        refine awd_done (by kernel_rfl) ?_
                        exact rest4 ((empty.set ((v16).toNat) ((empty.getD (((l.getD (v16).toNat z3).2.1).toNat) false) && (empty.getD (((l.getD (v16).toNat z3).2.2).toNat) false))), (nonev.set ((v16).toNat) ((nonev.getD (((l.getD (v16).toNat z3).2.1).toNat) false) || (nonev.getD (((l.getD (v16).toNat z3).2.2).toNat) false)))) h
                      · refine awd_memo ((inIdx v16 empty.length ∧ (inIdx v16 nonev.length ∧ VC49_k6 v16 X1 (empty.set ((v16).toNat) ((empty.getD (((l.getD (v16).toNat z3).2.1).toNat) false) && (empty.getD (((l.getD (v16).toNat z3).2.2).toNat) false))) (nonev.set ((v16).toNat) ((nonev.getD (((l.getD (v16).toNat z3).2.1).toNat) false) || (nonev.getD (((l.getD (v16).toNat z3).2.2).toNat) false)))))) [25, 24, 23, 22, 21, 20, 15, 14, 13, 12, 11, 10, 9, 8, 19, 18, 17, 16, 7, 6, 5, 4, 3, 2, 1, 0] (⟨101, [(4, [], .v (.c (.own 10))), (5, [], .v (.c (.own 13))), (14, [], .v (.c (.p (.sl t3) l))), (15, [], .v (.c (.pI (l.length : Int)))), (16, [], .v (.c (.pI v16))), (36, [], .v (.c (.own 10))), (37, [], .v (.c (.pI v16))), (38, [], .v (.c (.own 13))), (39, [], .v (.c (.pI v16))), (51, [], .v (.c (.pB ((empty.getD (((l.getD (v16).toNat z3).2.1).toNat) false) && (empty.getD (((l.getD (v16).toNat z3).2.2).toNat) false))))), (57, [], .v (.c (.pB (nonev.getD (((l.getD (v16).toNat z3).2.1).toNat) false)))), (61, [(57, false)], .v (.c (.el 13 (((l.getD (v16).toNat z3).2.2).toNat) 1)))], [(10, [], .arr 4 .bool empty), (13, [], .arr 4 .bool nonev)]⟩ : St) (fun h => ?_) (fun m2 => ?_)
                        · refine awd_one (i := 26) (by kernel_rfl) ?_
                          refine adop_stepp [4, 5, 14, 15, 16, 36, 37, 38, 39, 51, 57, 62] [10, 13] (ob := ((nonev.getD (((l.getD (v16).toNat z3).2.1).toNat) false) = false → True)) (st' := (⟨101, [(4, [], .v (.c (.own 10))), (5, [], .v (.c (.own 13))), (14, [], .v (.c (.p (.sl t3) l))), (15, [], .v (.c (.pI (l.length : Int)))), (16, [], .v (.c (.pI v16))), (36, [], .v (.c (.own 10))), (37, [], .v (.c (.pI v16))), (38, [], .v (.c (.own 13))), (39, [], .v (.c (.pI v16))), (51, [], .v (.c (.pB ((empty.getD (((l.getD (v16).toNat z3).2.1).toNat) false) && (empty.getD (((l.getD (v16).toNat z3).2.2).toNat) false))))), (57, [], .v (.c (.pB (nonev.getD (((l.getD (v16).toNat z3).2.1).toNat) false)))), (62, [(57, false)], .v (.c (.pB (nonev.getD (((l.getD (v16).toNat z3).2.2).toNat) false))))], [(10, [], .arr 4 .bool empty), (13, [], .arr 4 .bool nonev)]⟩ : St)) rfl (by kernel_rfl) (fun _ => trivial) ?_
                          obtain ⟨o1, h⟩ := h
                          refine awd_runp (by kernel_rfl) [27, 28] [4, 5, 14, 15, 16, 38, 39, 51, 63, 64] [10, 13] (ob := (True ∧ inIdx v16 empty.length ∧ True)) (done' := [28, 27, 26, 25, 24, 23, 22, 21, 20, 15, 14, 13, 12, 11, 10, 9, 8, 19, 18, 17, 16, 7, 6, 5, 4, 3, 2, 1, 0]) (st' := (⟨101, [(4, [], .v (.c (.own 10))), (5, [], .v (.c (.own 13))), (14, [], .v (.c (.p (.sl t3) l))), (15, [], .v (.c (.pI (l.length : Int)))), (16, [], .v (.c (.pI v16))), (38, [], .v (.c (.own 13))), (39, [], .v (.c (.pI v16))), (51, [], .v (.c (.pB ((empty.getD (((l.getD (v16).toNat z3).2.1).toNat) false) && (empty.getD (((l.getD (v16).toNat z3).2.2).toNat) false))))), (63, [], .v (.c (.pB ((nonev.getD (((l.getD (v16).toNat z3).2.1).toNat) false) || (nonev.getD (((l.getD (v16).toNat z3).2.2).toNat) false))))), (64, [], .v (.c (.el 10 ((v16).toNat) 1)))], [(10, [], .arr 4 .bool empty), (13, [], .arr 4 .bool nonev)]⟩ : St)) (by kernel_rfl) ⟨trivial, o1, trivial⟩ ?_
                          exact m1 h
                        · refine awd_memo ((inIdx v16 empty.length ∧ (inIdx v16 nonev.length ∧ VC49_k6 v16 X1 (empty.set ((v16).toNat) ((empty.getD (((l.getD (v16).toNat z3).2.1).toNat) false) && (empty.getD (((l.getD (v16).toNat z3).2.2).toNat) false))) (nonev.set ((v16).toNat) ((nonev.getD (((l.getD (v16).toNat z3).2.1).toNat) false) || (nonev.getD (((l.getD (v16).toNat z3).2.2).toNat) false)))))) [25, 24, 23, 22, 21, 20, 13, 12, 11, 10, 9, 8, 19, 18, 17, 16, 7, 6, 5, 4, 3, 2, 1, 0] (⟨101, [(4, [], .v (.c (.own 10))), (5, [], .v (.c (.own 13))), (14, [], .v (.c (.p (.sl t3) l))), (15, [], .v (.c (.pI (l.length : Int)))), (16, [], .v (.c (.pI v16))), (36, [], .v (.c (.own 10))), (37, [], .v (.c (.pI v16))), (38, [], .v (.c (.own 13))), (39, [], .v (.c (.pI v16))), (45, [], .v (.c (.pB (empty.getD (((l.getD (v16).toNat z3).2.1).toNat) false)))), (49, [(45, true)], .v (.c (.el 10 (((l.getD (v16).toNat z3).2.2).toNat) 1))), (57, [], .v (.c (.pB (nonev.getD (((l.getD (v16).toNat z3).2.1).toNat) false)))), (61, [(57, false)], .v (.c (.el 13 (((l.getD (v16).toNat z3).2.2).toNat) 1)))], [(10, [], .arr 4 .bool empty), (13, [], .arr 4 .bool nonev)]⟩ : St) (fun h => ?_) (fun m3 => ?_)
                          · refine awd_two (i := 14) (j := 26) (by kernel_rfl) ?_ ?_
                            · have h := h
                              refine adop_stepp [4, 5, 14, 15, 16, 36, 37, 38, 39, 45, 50, 57, 61] [10, 13] (ob := ((empty.getD (((l.getD (v16).toNat z3).2.1).toNat) false) = true → True)) (st' := (⟨101, [(4, [], .v (.c (.own 10))), (5, [], .v (.c (.own 13))), (14, [], .v (.c (.p (.sl t3) l))), (15, [], .v (.c (.pI (l.length : Int)))), (16, [], .v (.c (.pI v16))), (36, [], .v (.c (.own 10))), (37, [], .v (.c (.pI v16))), (38, [], .v (.c (.own 13))), (39, [], .v (.c (.pI v16))), (45, [], .v (.c (.pB (empty.getD (((l.getD (v16).toNat z3).2.1).toNat) false)))), (50, [(45, true)], .v (.c (.pB (empty.getD (((l.getD (v16).toNat z3).2.2).toNat) false)))), (57, [], .v (.c (.pB (nonev.getD (((l.getD (v16).toNat z3).2.1).toNat) false)))), (61, [(57, false)], .v (.c (.el 13 (((l.getD (v16).toNat z3).2.2).toNat) 1)))], [(10, [], .arr 4 .bool empty), (13, [], .arr 4 .bool nonev)]⟩ : St)) rfl (by kernel_rfl) (fun _ => trivial) ?_
                              refine awd_runp (by kernel_rfl) [15] [4, 5, 14, 15, 16, 36, 37, 38, 39, 51, 57, 61] [10, 13] (ob := (True ∧ True)) (done' := [15, 14, 25, 24, 23, 22, 21, 20, 13, 12, 11, 10, 9, 8, 19, 18, 17, 16, 7, 6, 5, 4, 3, 2, 1, 0]) (st' := (⟨101, [(4, [], .v (.c (.own 10))), (5, [], .v (.c (.own 13))), (14, [], .v (.c (.p (.sl t3) l))), (15, [], .v (.c (.pI (l.length : Int)))), (16, [], .v (.c (.pI v16))), (36, [], .v (.c (.own 10))), (37, [], .v (.c (.pI v16))), (38, [], .v (.c (.own 13))), (39, [], .v (.c (.pI v16))), (51, [], .v (.c (.pB ((empty.getD (((l.getD (v16).toNat z3).2.1).toNat) false) && (empty.getD (((l.getD (v16).toNat z3).2.2).toNat) false))))), (57, [], .v (.c (.pB (nonev.getD (((l.getD (v16).toNat z3).2.1).toNat) false)))), (61, [(57, false)], .v (.c (.el 13 (((l.getD (v16).toNat z3).2.2).toNat) 1)))], [(10, [], .arr 4 .bool empty), (13, [], .arr 4 .bool nonev)]⟩ : St)) (by kernel_rfl) ⟨trivial, trivial⟩ ?_
                              refine awd_perm [25, 24, 23, 22, 21, 20, 15, 14, 13, 12, 11, 10, 9, 8, 19, 18, 17, 16, 7, 6, 5, 4, 3, 2, 1, 0] (by kernel_rfl) (by kernel_rfl) ?_
                              exact m2 h
                            · have h := h
                              refine adop_stepp [4, 5, 14, 15, 16, 36, 37, 38, 39, 45, 49, 57, 62] [10, 13] (ob := ((nonev.getD (((l.getD (v16).toNat z3).2.1).toNat) false) = false → True)) (st' := (⟨101, [(4, [], .v (.c (.own 10))), (5, [], .v (.c (.own 13))), (14, [], .v (.c (.p (.sl t3) l))), (15, [], .v (.c (.pI (l.length : Int)))), (16, [], .v (.c (.pI v16))), (36, [], .v (.c (.own 10))), (37, [], .v (.c (.pI v16))), (38, [], .v (.c (.own 13))), (39, [], .v (.c (.pI v16))), (45, [], .v (.c (.pB (empty.getD (((l.getD (v16).toNat z3).2.1).toNat) false)))), (49, [(45, true)], .v (.c (.el 10 (((l.getD (v16).toNat z3).2.2).toNat) 1))), (57, [], .v (.c (.pB (nonev.getD (((l.getD (v16).toNat z3).2.1).toNat) false)))), (62, [(57, false)], .v (.c (.pB (nonev.getD (((l.getD (v16).toNat z3).2.2).toNat) false))))], [(10, [], .arr 4 .bool empty), (13, [], .arr 4 .bool nonev)]⟩ : St)) rfl (by kernel_rfl) (fun _ => trivial) ?_
                              refine awd_runp (by kernel_rfl) [27] [4, 5, 14, 15, 16, 36, 37, 38, 39, 45, 49, 63] [10, 13] (ob := (True ∧ True)) (done' := [27, 26, 25, 24, 23, 22, 21, 20, 13, 12, 11, 10, 9, 8, 19, 18, 17, 16, 7, 6, 5, 4, 3, 2, 1, 0]) (st' := (⟨101, [(4, [], .v (.c (.own 10))), (5, [], .v (.c (.own 13))), (14, [], .v (.c (.p (.sl t3) l))), (15, [], .v (.c (.pI (l.length : Int)))), (16, [], .v (.c (.pI v16))), (36, [], .v (.c (.own 10))), (37, [], .v (.c (.pI v16))), (38, [], .v (.c (.own 13))), (39, [], .v (.c (.pI v16))), (45, [], .v (.c (.pB (empty.getD (((l.getD (v16).toNat z3).2.1).toNat) false)))), (49, [(45, true)], .v (.c (.el 10 (((l.getD (v16).toNat z3).2.2).toNat) 1))), (63, [], .v (.c (.pB ((nonev.getD (((l.getD (v16).toNat z3).2.1).toNat) false) || (nonev.getD (((l.getD (v16).toNat z3).2.2).toNat) false)))))], [(10, [], .arr 4 .bool empty), (13, [], .arr 4 .bool nonev)]⟩ : St)) (by kernel_rfl) ⟨trivial, trivial⟩ ?_
                              refine awd_one (i := 14) (by kernel_rfl) ?_
                              refine adop_stepp [4, 5, 14, 15, 16, 36, 37, 38, 39, 45, 50, 63] [10, 13] (ob := ((empty.getD (((l.getD (v16).toNat z3).2.1).toNat) false) = true → True)) (st' := (⟨101, [(4, [], .v (.c (.own 10))), (5, [], .v (.c (.own 13))), (14, [], .v (.c (.p (.sl t3) l))), (15, [], .v (.c (.pI (l.length : Int)))), (16, [], .v (.c (.pI v16))), (36, [], .v (.c (.own 10))), (37, [], .v (.c (.pI v16))), (38, [], .v (.c (.own 13))), (39, [], .v (.c (.pI v16))), (45, [], .v (.c (.pB (empty.getD (((l.getD (v16).toNat z3).2.1).toNat) false)))), (50, [(45, true)], .v (.c (.pB (empty.getD (((l.getD (v16).toNat z3).2.2).toNat) false)))), (63, [], .v (.c (.pB ((nonev.getD (((l.getD (v16).toNat z3).2.1).toNat) false) || (nonev.getD (((l.getD (v16).toNat z3).2.2).toNat) false)))))], [(10, [], .arr 4 .bool empty), (13, [], .arr 4 .bool nonev)]⟩ : St)) rfl (by kernel_rfl) (fun _ => trivial) ?_
                              obtain ⟨o1, h⟩ := h
                              refine awd_runp (by kernel_rfl) [15, 28] [4, 5, 14, 15, 16, 38, 39, 51, 63, 64] [10, 13] (ob := (True ∧ inIdx v16 empty.length ∧ True)) (done' := [28, 15, 14, 27, 26, 25, 24, 23, 22, 21, 20, 13, 12, 11, 10, 9, 8, 19, 18, 17, 16, 7, 6, 5, 4, 3, 2, 1, 0]) (st' := (⟨101, [(4, [], .v (.c (.own 10))), (5, [], .v (.c (.own 13))), (14, [], .v (.c (.p (.sl t3) l))), (15, [], .v (.c (.pI (l.length : Int)))), (16, [], .v (.c (.pI v16))), (38, [], .v (.c (.own 13))), (39, [], .v (.c (.pI v16))), (51, [], .v (.c (.pB ((empty.getD (((l.getD (v16).toNat z3).2.1).toNat) false) && (empty.getD (((l.getD (v16).toNat z3).2.2).toNat) false))))), (63, [], .v (.c (.pB ((nonev.getD (((l.getD (v16).toNat z3).2.1).toNat) false) || (nonev.getD (((l.getD (v16).toNat z3).2.2).toNat) false))))), (64, [], .v (.c (.el 10 ((v16).toNat) 1)))], [(10, [], .arr 4 .bool empty), (13, [], .arr 4 .bool nonev)]⟩ : St)) (by kernel_rfl) ⟨trivial, o1, trivial⟩ ?_
                              refine awd_perm [28, 27, 26, 25, 24, 23, 22, 21, 20, 15, 14, 13, 12, 11, 10, 9, 8, 19, 18, 17, 16, 7, 6, 5, 4, 3, 2, 1, 0] (by kernel_rfl) (by kernel_rfl) ?_
                              exact m1 h
                          · obtain ⟨o1, o2, h⟩ := h
                            refine awd_runp (by kernel_rfl) [0, 1, 2, 3, 4, 5, 6, 7, 16, 17, 18, 19] [4, 5, 7, 14, 15, 16, 36, 37, 38, 39, 43, 55] [7, 10, 13] (ob := (True ∧ True ∧ True ∧ True ∧ True ∧ True ∧ True ∧ inIdx ((l.getD (v16).toNat z3).2.1) empty.length ∧ True ∧ True ∧ True ∧ inIdx ((l.getD (v16).toNat z3).2.1) nonev.length ∧ True)) (done' := [19, 18, 17, 16, 7, 6, 5, 4, 3, 2, 1, 0]) (st' := (⟨101, [(4, [], .v (.c (.own 10))), (5, [], .v (.c (.own 13))), (7, [], .v (.c (.ptr 7 0))), (14, [], .v (.c (.p (.sl t3) l))), (15, [], .v (.c (.pI (l.length : Int)))), (16, [], .v (.c (.pI v16))), (36, [], .v (.c (.own 10))), (37, [], .v (.c (.pI v16))), (38, [], .v (.c (.own 13))), (39, [], .v (.c (.pI v16))), (43, [], .v (.c (.el 10 (((l.getD (v16).toNat z3).2.1).toNat) 1))), (55, [], .v (.c (.el 13 (((l.getD (v16).toNat z3).2.1).toNat) 1)))], [(7, [], .box [.pI ((l.getD (v16).toNat z3).1), .pI ((l.getD (v16).toNat z3).2.1), .pI ((l.getD (v16).toNat z3).2.2)]), (10, [], .arr 4 .bool empty), (13, [], .arr 4 .bool nonev)]⟩ : St)) (by kernel_rfl) ⟨trivial, trivial, trivial, trivial, trivial, trivial, trivial, o1, trivial, trivial, trivial, o2, trivial⟩ ?_
                            refine awd_two (i := 8) (j := 20) (by kernel_rfl) ?_ ?_
                            · have h := h.1
                              refine adop_stepp [4, 5, 7, 14, 15, 16, 36, 37, 38, 39, 44, 55] [7, 10, 13] (ob := True) (st' := (⟨101, [(4, [], .v (.c (.own 10))), (5, [], .v (.c (.own 13))), (7, [], .v (.c (.ptr 7 0))), (14, [], .v (.c (.p (.sl t3) l))), (15, [], .v (.c (.pI (l.length : Int)))), (16, [], .v (.c (.pI v16))), (36, [], .v (.c (.own 10))), (37, [], .v (.c (.pI v16))), (38, [], .v (.c (.own 13))), (39, [], .v (.c (.pI v16))), (44, [], .v (.c (.pB (empty.getD (((l.getD (v16).toNat z3).2.1).toNat) false)))), (55, [], .v (.c (.el 13 (((l.getD (v16).toNat z3).2.1).toNat) 1)))], [(7, [], .box [.pI ((l.getD (v16).toNat z3).1), .pI ((l.getD (v16).toNat z3).2.1), .pI ((l.getD (v16).toNat z3).2.2)]), (10, [], .arr 4 .bool empty), (13, [], .arr 4 .bool nonev)]⟩ : St)) rfl (by kernel_rfl) trivial ?_
                              obtain ⟨o1, h⟩ := h
                              refine awd_runp (by kernel_rfl) [9, 10, 11, 12, 13] [4, 5, 7, 14, 15, 16, 36, 37, 38, 39, 45, 49, 55] [7, 10, 13] (ob := (True ∧ ((empty.getD (((l.getD (v16).toNat z3).2.1).toNat) false) = true → True) ∧ ((empty.getD (((l.getD (v16).toNat z3).2.1).toNat) false) = true → True) ∧ ((empty.getD (((l.getD (v16).toNat z3).2.1).toNat) false) = true → True) ∧ ((empty.getD (((l.getD (v16).toNat z3).2.1).toNat) false) = true → inIdx ((l.getD (v16).toNat z3).2.2) empty.length) ∧ True)) (done' := [13, 12, 11, 10, 9, 8, 19, 18, 17, 16, 7, 6, 5, 4, 3, 2, 1, 0]) (st' := (⟨101, [(4, [], .v (.c (.own 10))), (5, [], .v (.c (.own 13))), (7, [], .v (.c (.ptr 7 0))), (14, [], .v (.c (.p (.sl t3) l))), (15, [], .v (.c (.pI (l.length : Int)))), (16, [], .v (.c (.pI v16))), (36, [], .v (.c (.own 10))), (37, [], .v (.c (.pI v16))), (38, [], .v (.c (.own 13))), (39, [], .v (.c (.pI v16))), (45, [], .v (.c (.pB (empty.getD (((l.getD (v16).toNat z3).2.1).toNat) false)))), (49, [(45, true)], .v (.c (.el 10 (((l.getD (v16).toNat z3).2.2).toNat) 1))), (55, [], .v (.c (.el 13 (((l.getD (v16).toNat z3).2.1).toNat) 1)))], [(7, [], .box [.pI ((l.getD (v16).toNat z3).1), .pI ((l.getD (v16).toNat z3).2.1), .pI ((l.getD (v16).toNat z3).2.2)]), (10, [], .arr 4 .bool empty), (13, [], .arr 4 .bool nonev)]⟩ : St)) (by kernel_rfl) ⟨trivial, (fun _ => trivial), (fun _ => trivial), (fun _ => trivial), o1, trivial⟩ ?_
                              refine awd_two (i := 14) (j := 20) (by kernel_rfl) ?_ ?_
                              · have h := h
                                refine adop_stepp [4, 5, 7, 14, 15, 16, 36, 37, 38, 39, 45, 50, 55] [7, 10, 13] (ob := ((empty.getD (((l.getD (v16).toNat z3).2.1).toNat) false) = true → True)) (st' := (⟨101, [(4, [], .v (.c (.own 10))), (5, [], .v (.c (.own 13))), (7, [], .v (.c (.ptr 7 0))), (14, [], .v (.c (.p (.sl t3) l))), (15, [], .v (.c (.pI (l.length : Int)))), (16, [], .v (.c (.pI v16))), (36, [], .v (.c (.own 10))), (37, [], .v (.c (.pI v16))), (38, [], .v (.c (.own 13))), (39, [], .v (.c (.pI v16))), (45, [], .v (.c (.pB (empty.getD (((l.getD (v16).toNat z3).2.1).toNat) false)))), (50, [(45, true)], .v (.c (.pB (empty.getD (((l.getD (v16).toNat z3).2.2).toNat) false)))), (55, [], .v (.c (.el 13 (((l.getD (v16).toNat z3).2.1).toNat) 1)))], [(7, [], .box [.pI ((l.getD (v16).toNat z3).1), .pI ((l.getD (v16).toNat z3).2.1), .pI ((l.getD (v16).toNat z3).2.2)]), (10, [], .arr 4 .bool empty), (13, [], .arr 4 .bool nonev)]⟩ : St)) rfl (by kernel_rfl) (fun _ => trivial) ?_
                                refine awd_runp (by kernel_rfl) [15] [4, 5, 7, 14, 15, 16, 36, 37, 38, 39, 51, 55] [7, 10, 13] (ob := (True ∧ True)) (done' := [15, 14, 13, 12, 11, 10, 9, 8, 19, 18, 17, 16, 7, 6, 5, 4, 3, 2, 1, 0]) (st' := (⟨101, [(4, [], .v (.c (.own 10))), (5, [], .v (.c (.own 13))), (7, [], .v (.c (.ptr 7 0))), (14, [], .v (.c (.p (.sl t3) l))), (15, [], .v (.c (.pI (l.length : Int)))), (16, [], .v (.c (.pI v16))), (36, [], .v (.c (.own 10))), (37, [], .v (.c (.pI v16))), (38, [], .v (.c (.own 13))), (39, [], .v (.c (.pI v16))), (51, [], .v (.c (.pB ((empty.getD (((l.getD (v16).toNat z3).2.1).toNat) false) && (empty.getD (((l.getD (v16).toNat z3).2.2).toNat) false))))), (55, [], .v (.c (.el 13 (((l.getD (v16).toNat z3).2.1).toNat) 1)))], [(7, [], .box [.pI ((l.getD (v16).toNat z3).1), .pI ((l.getD (v16).toNat z3).2.1), .pI ((l.getD (v16).toNat z3).2.2)]), (10, [], .arr 4 .bool empty), (13, [], .arr 4 .bool nonev)]⟩ : St)) (by kernel_rfl) ⟨trivial, trivial⟩ ?_
                                refine awd_one (i := 20) (by kernel_rfl) ?_
                                refine adop_stepp [4, 5, 7, 14, 15, 16, 36, 37, 38, 39, 51, 56] [7, 10, 13] (ob := True) (st' := (⟨101, [(4, [], .v (.c (.own 10))), (5, [], .v (.c (.own 13))), (7, [], .v (.c (.ptr 7 0))), (14, [], .v (.c (.p (.sl t3) l))), (15, [], .v (.c (.pI (l.length : Int)))), (16, [], .v (.c (.pI v16))), (36, [], .v (.c (.own 10))), (37, [], .v (.c (.pI v16))), (38, [], .v (.c (.own 13))), (39, [], .v (.c (.pI v16))), (51, [], .v (.c (.pB ((empty.getD (((l.getD (v16).toNat z3).2.1).toNat) false) && (empty.getD (((l.getD (v16).toNat z3).2.2).toNat) false))))), (56, [], .v (.c (.pB (nonev.getD (((l.getD (v16).toNat z3).2.1).toNat) false))))], [(7, [], .box [.pI ((l.getD (v16).toNat z3).1), .pI ((l.getD (v16).toNat z3).2.1), .pI ((l.getD (v16).toNat z3).2.2)]), (10, [], .arr 4 .bool empty), (13, [], .arr 4 .bool nonev)]⟩ : St)) rfl (by kernel_rfl) trivial ?_
                                obtain ⟨o1, h⟩ := h
                                refine awd_runp (by kernel_rfl) [21, 22, 23, 24, 25] [4, 5, 14, 15, 16, 36, 37, 38, 39, 51, 57, 61] [10, 13] (ob := (True ∧ ((nonev.getD (((l.getD (v16).toNat z3).2.1).toNat) false) = false → True) ∧ ((nonev.getD (((l.getD (v16).toNat z3).2.1).toNat) false) = false → True) ∧ ((nonev.getD (((l.getD (v16).toNat z3).2.1).toNat) false) = false → True) ∧ ((nonev.getD (((l.getD (v16).toNat z3).2.1).toNat) false) = false → inIdx ((l.getD (v16).toNat z3).2.2) nonev.length) ∧ True)) (done' := [25, 24, 23, 22, 21, 20, 15, 14, 13, 12, 11, 10, 9, 8, 19, 18, 17, 16, 7, 6, 5, 4, 3, 2, 1, 0]) (st' := (⟨101, [(4, [], .v (.c (.own 10))), (5, [], .v (.c (.own 13))), (14, [], .v (.c (.p (.sl t3) l))), (15, [], .v (.c (.pI (l.length : Int)))), (16, [], .v (.c (.pI v16))), (36, [], .v (.c (.own 10))), (37, [], .v (.c (.pI v16))), (38, [], .v (.c (.own 13))), (39, [], .v (.c (.pI v16))), (51, [], .v (.c (.pB ((empty.getD (((l.getD (v16).toNat z3).2.1).toNat) false) && (empty.getD (((l.getD (v16).toNat z3).2.2).toNat) false))))), (57, [], .v (.c (.pB (nonev.getD (((l.getD (v16).toNat z3).2.1).toNat) false)))), (61, [(57, false)], .v (.c (.el 13 (((l.getD (v16).toNat z3).2.2).toNat) 1)))], [(10, [], .arr 4 .bool empty), (13, [], .arr 4 .bool nonev)]⟩ : St)) (by kernel_rfl) ⟨trivial, (fun _ => trivial), (fun _ => trivial), (fun _ => trivial), o1, trivial⟩ ?_
                                exact m2 h
                              · have h := h
                                refine adop_stepp [4, 5, 7, 14, 15, 16, 36, 37, 38, 39, 45, 49, 56] [7, 10, 13] (ob := True) (st' := (⟨101, [(4, [], .v (.c (.own 10))), (5, [], .v (.c (.own 13))), (7, [], .v (.c (.ptr 7 0))), (14, [], .v (.c (.p (.sl t3) l))), (15, [], .v (.c (.pI (l.length : Int)))), (16, [], .v (.c (.pI v16))), (36, [], .v (.c (.own 10))), (37, [], .v (.c (.pI v16))), (38, [], .v (.c (.own 13))), (39, [], .v (.c (.pI v16))), (45, [], .v (.c (.pB (empty.getD (((l.getD (v16).toNat z3).2.1).toNat) false)))), (49, [(45, true)], .v (.c (.el 10 (((l.getD (v16).toNat z3).2.2).toNat) 1))), (56, [], .v (.c (.pB (nonev.getD (((l.getD (v16).toNat z3).2.1).toNat) false))))], [(7, [], .box [.pI ((l.getD (v16).toNat z3).1), .pI ((l.getD (v16).toNat z3).2.1), .pI ((l.getD (v16).toNat z3).2.2)]), (10, [], .arr 4 .bool empty), (13, [], .arr 4 .bool nonev)]⟩ : St)) rfl (by kernel_rfl) trivial ?_
                                obtain ⟨o1, h⟩ := h
                                refine awd_runp (by kernel_rfl) [21, 22, 23, 24, 25] [4, 5, 14, 15, 16, 36, 37, 38, 39, 45, 49, 57, 61] [10, 13] (ob := (True ∧ ((nonev.getD (((l.getD (v16).toNat z3).2.1).toNat) false) = false → True) ∧ ((nonev.getD (((l.getD (v16).toNat z3).2.1).toNat) false) = false → True) ∧ ((nonev.getD (((l.getD (v16).toNat z3).2.1).toNat) false) = false → True) ∧ ((nonev.getD (((l.getD (v16).toNat z3).2.1).toNat) false) = false → inIdx ((l.getD (v16).toNat z3).2.2) nonev.length) ∧ True)) (done' := [25, 24, 23, 22, 21, 20, 13, 12, 11, 10, 9, 8, 19, 18, 17, 16, 7, 6, 5, 4, 3, 2, 1, 0]) (st' := (⟨101, [(4, [], .v (.c (.own 10))), (5, [], .v (.c (.own 13))), (14, [], .v (.c (.p (.sl t3) l))), (15, [], .v (.c (.pI (l.length : Int)))), (16, [], .v (.c (.pI v16))), (36, [], .v (.c (.own 10))), (37, [], .v (.c (.pI v16))), (38, [], .v (.c (.own 13))), (39, [], .v (.c (.pI v16))), (45, [], .v (.c (.pB (empty.getD (((l.getD (v16).toNat z3).2.1).toNat) false)))), (49, [(45, true)], .v (.c (.el 10 (((l.getD (v16).toNat z3).2.2).toNat) 1))), (57, [], .v (.c (.pB (nonev.getD (((l.getD (v16).toNat z3).2.1).toNat) false)))), (61, [(57, false)], .v (.c (.el 13 (((l.getD (v16).toNat z3).2.2).toNat) 1)))], [(10, [], .arr 4 .bool empty), (13, [], .arr 4 .bool nonev)]⟩ : St)) (by kernel_rfl) ⟨trivial, (fun _ => trivial), (fun _ => trivial), (fun _ => trivial), o1, trivial⟩ ?_
                                exact m3 h
                            · have h := h.2
                              refine adop_stepp [4, 5, 7, 14, 15, 16, 36, 37, 38, 39, 43, 56] [7, 10, 13] (ob := True) (st' := (⟨101, [(4, [], .v (.c (.own 10))), (5, [], .v (.c (.own 13))), (7, [], .v (.c (.ptr 7 0))), (14, [], .v (.c (.p (.sl t3) l))), (15, [], .v (.c (.pI (l.length : Int)))), (16, [], .v (.c (.pI v16))), (36, [], .v (.c (.own 10))), (37, [], .v (.c (.pI v16))), (38, [], .v (.c (.own 13))), (39, [], .v (.c (.pI v16))), (43, [], .v (.c (.el 10 (((l.getD (v16).toNat z3).2.1).toNat) 1))), (56, [], .v (.c (.pB (nonev.getD (((l.getD (v16).toNat z3).2.1).toNat) false))))], [(7, [], .box [.pI ((l.getD (v16).toNat z3).1), .pI ((l.getD (v16).toNat z3).2.1), .pI ((l.getD (v16).toNat z3).2.2)]), (10, [], .arr 4 .bool empty), (13, [], .arr 4 .bool nonev)]⟩ : St)) rfl (by kernel_rfl) trivial ?_
                              refine awd_one (i := 8) (by kernel_rfl) ?_
                              refine adop_stepp [4, 5, 7, 14, 15, 16, 36, 37, 38, 39, 44, 56] [7, 10, 13] (ob := True) (st' := (⟨101, [(4, [], .v (.c (.own 10))), (5, [], .v (.c (.own 13))), (7, [], .v (.c (.ptr 7 0))), (14, [], .v (.c (.p (.sl t3) l))), (15, [], .v (.c (.pI (l.length : Int)))), (16, [], .v (.c (.pI v16))), (36, [], .v (.c (.own 10))), (37, [], .v (.c (.pI v16))), (38, [], .v (.c (.own 13))), (39, [], .v (.c (.pI v16))), (44, [], .v (.c (.pB (empty.getD (((l.getD (v16).toNat z3).2.1).toNat) false)))), (56, [], .v (.c (.pB (nonev.getD (((l.getD (v16).toNat z3).2.1).toNat) false))))], [(7, [], .box [.pI ((l.getD (v16).toNat z3).1), .pI ((l.getD (v16).toNat z3).2.1), .pI ((l.getD (v16).toNat z3).2.2)]), (10, [], .arr 4 .bool empty), (13, [], .arr 4 .bool nonev)]⟩ : St)) rfl (by kernel_rfl) trivial ?_
                              obtain ⟨o1, o2, h⟩ := h
                              refine awd_runp (by kernel_rfl) [9, 10, 11, 12, 13, 21, 22, 23, 24, 25] [4, 5, 14, 15, 16, 36, 37, 38, 39, 45, 49, 57, 61] [10, 13] (ob := (True ∧ ((empty.getD (((l.getD (v16).toNat z3).2.1).toNat) false) = true → True) ∧ ((empty.getD (((l.getD (v16).toNat z3).2.1).toNat) false) = true → True) ∧ ((empty.getD (((l.getD (v16).toNat z3).2.1).toNat) false) = true → True) ∧ ((empty.getD (((l.getD (v16).toNat z3).2.1).toNat) false) = true → inIdx ((l.getD (v16).toNat z3).2.2) empty.length) ∧ True ∧ ((nonev.getD (((l.getD (v16).toNat z3).2.1).toNat) false) = false → True) ∧ ((nonev.getD (((l.getD (v16).toNat z3).2.1).toNat) false) = false → True) ∧ ((nonev.getD (((l.getD (v16).toNat z3).2.1).toNat) false) = false → True) ∧ ((nonev.getD (((l.getD (v16).toNat z3).2.1).toNat) false) = false → inIdx ((l.getD (v16).toNat z3).2.2) nonev.length) ∧ True)) (done' := [25, 24, 23, 22, 21, 13, 12, 11, 10, 9, 8, 20, 19, 18, 17, 16, 7, 6, 5, 4, 3, 2, 1, 0]) (st' := (⟨101, [(4, [], .v (.c (.own 10))), (5, [], .v (.c (.own 13))), (14, [], .v (.c (.p (.sl t3) l))), (15, [], .v (.c (.pI (l.length : Int)))), (16, [], .v (.c (.pI v16))), (36, [], .v (.c (.own 10))), (37, [], .v (.c (.pI v16))), (38, [], .v (.c (.own 13))), (39, [], .v (.c (.pI v16))), (45, [], .v (.c (.pB (empty.getD (((l.getD (v16).toNat z3).2.1).toNat) false)))), (49, [(45, true)], .v (.c (.el 10 (((l.getD (v16).toNat z3).2.2).toNat) 1))), (57, [], .v (.c (.pB (nonev.getD (((l.getD (v16).toNat z3).2.1).toNat) false)))), (61, [(57, false)], .v (.c (.el 13 (((l.getD (v16).toNat z3).2.2).toNat) 1)))], [(10, [], .arr 4 .bool empty), (13, [], .arr 4 .bool nonev)]⟩ : St)) (by kernel_rfl) ⟨trivial, (fun _ => trivial), (fun _ => trivial), (fun _ => trivial), o1, trivial, (fun _ => trivial), (fun _ => trivial), (fun _ => trivial), o2, trivial⟩ ?_
                              refine awd_perm [25, 24, 23, 22, 21, 20, 13, 12, 11, 10, 9, 8, 19, 18, 17, 16, 7, 6, 5, 4, 3, 2, 1, 0] (by kernel_rfl) (by kernel_rfl) ?_
                              exact m3 h
                    · have h := h.2 hb
                      refine aw_seq ?_
                      refine aw_region ?_
                      refine awl_runp 2 [4, 5, 6, 7, 14, 15, 16, 66] [7, 10, 13] (ob := (True ∧ True ∧ True)) (st' := (⟨101, [(4, [], .v (.c (.own 10))), (5, [], .v (.c (.own 13))), (6, [], .v (.c (.pI v16))), (7, [], .v (.c (.ptr 7 0))), (14, [], .v (.c (.p (.sl t3) l))), (15, [], .v (.c (.pI (l.length : Int)))), (16, [], .v (.c (.pI v16))), (66, [], .v (.c (.pB (decide ((l.getD (v16).toNat z3).1 = (5 : Int))))))], [(7, [], .box [.pI ((l.getD (v16).toNat z3).1), .pI ((l.getD (v16).toNat z3).2.1), .pI ((l.getD (v16).toNat z3).2.2)]), (10, [], .arr 4 .bool empty), (13, [], .arr 4 .bool nonev)]⟩ : St)) (by kernel_rfl) ⟨trivial, trivial, trivial⟩ ?_
                      refine awl_nil ?_
                      refine thenQ_n ?_
                      refine withJoin (σ := LB × LB) (fun s => (⟨101, [(4, [], .v (.c (.own 10))), (5, [], .v (.c (.own 13))), (14, [], .v (.c (.p (.sl t3) l))), (15, [], .v (.c (.pI (l.length : Int)))), (16, [], .v (.c (.pI v16)))], [(10, [], .arr 4 .bool s.1), (13, [], .arr 4 .bool s.2)]⟩ : St)) (fun s => VC49_k7 v16 X1 s.1 s.2) (fun s h => ?_) (fun rest5 => ?_)
                      · obtain ⟨empty2, nonev2⟩ := s
                        have h : VC49_k7 v16 X1 empty2 nonev2 := h
                        unfold VC49_k7 at h
                        exact rest4 (empty2, nonev2) h
                      · refine aw_cond (b := (decide ((l.getD (v16).toNat z3).1 = (5 : Int)))) (by kernel_rfl) (fun hb => ?_) (fun hb => ?_)
                        · have h := h.1 hb
                          refine awd_begin [10, 13] (by kernel_rfl) ?_
                          refine awd_memo ((inIdx v16 nonev.length ∧ VC49_k7 v16 X1 (empty.set ((v16).toNat) ((empty.getD (((l.getD (v16).toNat z3).2.1).toNat) false) || (empty.getD (((l.getD (v16).toNat z3).2.2).toNat) false))) (nonev.set ((v16).toNat) ((nonev.getD (((l.getD (v16).toNat z3).2.1).toNat) false) && (nonev.getD (((l.getD (v16).toNat z3).2.2).toNat) false))))) [28, 27, 26, 25, 24, 23, 22, 21, 20, 15, 14, 13, 12, 11, 10, 9, 8, 19, 18, 17, 16, 7, 6, 5, 4, 3, 2, 1, 0] (⟨101, [(4, [], .v (.c (.own 10))), (5, [], .v (.c (.own 13))), (14, [], .v (.c (.p (.sl t3) l))), (15, [], .v (.c (.pI (l.length : Int)))), (16, [], .v (.c (.pI v16))), (70, [], .v (.c (.own 13))), (71, [], .v (.c (.pI v16))), (83, [], .v (.c (.pB ((empty.getD (((l.getD (v16).toNat z3).2.1).toNat) false) || (empty.getD (((l.getD (v16).toNat z3).2.2).toNat) false))))), (95, [], .v (.c (.pB ((nonev.getD (((l.getD (v16).toNat z3).2.1).toNat) false) && (nonev.getD (((l.getD (v16).toNat z3).2.2).toNat) false))))), (96, [], .v (.c (.el 10 ((v16).toNat) 1)))], [(10, [], .arr 4 .bool empty), (13, [], .arr 4 .bool nonev)]⟩ : St) (fun h => ?_) (fun m4 => ?_)
                          · refine awd_one (i := 29) (by kernel_rfl) ?_
                            refine adop_stepp [4, 5, 14, 15, 16, 70, 71, 95] [10, 13] (ob := True) (st' := (⟨101, [(4, [], .v (.c (.own 10))), (5, [], .v (.c (.own 13))), (14, [], .v (.c (.p (.sl t3) l))), (15, [], .v (.c (.pI (l.length : Int)))), (16, [], .v (.c (.pI v16))), (70, [], .v (.c (.own 13))), (71, [], .v (.c (.pI v16))), (95, [], .v (.c (.pB ((nonev.getD (((l.getD (v16).toNat z3).2.1).toNat) false) && (nonev.getD (((l.getD (v16).toNat z3).2.2).toNat) false)))))], [(10, [], .arr 4 .bool (empty.set ((v16).toNat) ((empty.getD (((l.getD (v16).toNat z3).2.1).toNat) false) || (empty.getD (((l.getD (v16).toNat z3).2.2).toNat) false)))), (13, [], .arr 4 .bool nonev)]⟩ : St)) rfl (by kernel_rfl) trivial ?_
                            obtain ⟨o1, h⟩ := h
                            refine awd_runp (by kernel_rfl) [30] [4, 5, 14, 15, 16, 95, 97] [10, 13] (ob := (inIdx v16 nonev.length ∧ True)) (done' := [30, 29, 28, 27, 26, 25, 24, 23, 22, 21, 20, 15, 14, 13, 12, 11, 10, 9, 8, 19, 18, 17, 16, 7, 6, 5, 4, 3, 2, 1, 0]) (st' := (⟨101, [(4, [], .v (.c (.own 10))), (5, [], .v (.c (.own 13))), (14, [], .v (.c (.p (.sl t3) l))), (15, [], .v (.c (.pI (l.length : Int)))), (16, [], .v (.c (.pI v16))), (95, [], .v (.c (.pB ((nonev.getD (((l.getD (v16).toNat z3).2.1).toNat) false) && (nonev.getD (((l.getD (v16).toNat z3).2.2).toNat) false))))), (97, [], .v (.c (.el 13 ((v16).toNat) 1)))], [(10, [], .arr 4 .bool (empty.set ((v16).toNat) ((empty.getD (((l.getD (v16).toNat z3).2.1).toNat) false) || (empty.getD (((l.getD (v16).toNat z3).2.2).toNat) false)))), (13, [], .arr 4 .bool nonev)]⟩ : St)) (by kernel_rfl) ⟨o1, trivial⟩ ?_
                            refine awd_one (i := 31) (by kernel_rfl) ?_
                            refine adop_stepp [4, 5, 14, 15, 16] [10, 13] (ob := True) (st' := (⟨101, [(4, [], .v (.c (.own 10))), (5, [], .v (.c (.own 13))), (14, [], .v (.c (.p (.sl t3) l))), (15, [], .v (.c (.pI (l.length : Int)))), (16, [], .v (.c (.pI v16)))], [(10, [], .arr 4 .bool (empty.set ((v16).toNat) ((empty.getD (((l.getD (v16).toNat z3).2.1).toNat) false) || (empty.getD (((l.getD (v16).toNat z3).2.2).toNat) false)))), (13, [], .arr 4 .bool (nonev.set ((v16).toNat) ((nonev.getD (((l.getD (v16).toNat z3).2.1).toNat) false) && (nonev.getD (((l.getD (v16).toNat z3).2.2).toNat) false))))]⟩ : St)) rfl (by kernel_rfl) trivial ?_
                            refine awd_done (by kernel_rfl) ?_
                            exact rest5 ((empty.set ((v16).toNat) ((empty.getD (((l.getD (v16).toNat z3).2.1).toNat) false) || (empty.getD (((l.getD (v16).toNat z3).2.2).toNat) false))), (nonev.set ((v16).toNat) ((nonev.getD (((l.getD (v16).toNat z3).2.1).toNat) false) && (nonev.getD (((l.getD (v16).toNat z3).2.2).toNat) false)))) h
                          · refine awd_memo ((inIdx v16 empty.length ∧ (inIdx v16 nonev.length ∧ VC49_k7 v16 X1 (empty.set ((v16).toNat) ((empty.getD (((l.getD (v16).toNat z3).2.1).toNat) false) || (empty.getD (((l.getD (v16).toNat z3).2.2).toNat) false))) (nonev.set ((v16).toNat) ((nonev.getD (((l.getD (v16).toNat z3).2.1).toNat) false) && (nonev.getD (((l.getD (v16).toNat z3).2.2).toNat) false)))))) [25, 24, 23, 22, 21, 20, 15, 14, 13, 12, 11, 10, 9, 8, 19, 18, 17, 16, 7, 6, 5, 4, 3, 2, 1, 0] (⟨101, [(4, [], .v (.c (.own 10))), (5, [], .v (.c (.own 13))), (14, [], .v (.c (.p (.sl t3) l))), (15, [], .v (.c (.pI (l.length : Int)))), (16, [], .v (.c (.pI v16))), (68, [], .v (.c (.own 10))), (69, [], .v (.c (.pI v16))), (70, [], .v (.c (.own 13))), (71, [], .v (.c (.pI v16))), (83, [], .v (.c (.pB ((empty.getD (((l.getD (v16).toNat z3).2.1).toNat) false) || (empty.getD (((l.getD (v16).toNat z3).2.2).toNat) false))))), (89, [], .v (.c (.pB (nonev.getD (((l.getD (v16).toNat z3).2.1).toNat) false)))), (93, [(89, true)], .v (.c (.el 13 (((l.getD (v16).toNat z3).2.2).toNat) 1)))], [(10, [], .arr 4 .bool empty), (13, [], .arr 4 .bool nonev)]⟩ : St) (fun h => ?_) (fun m5 => ?_)
                            · refine awd_one (i := 26) (by kernel_rfl) ?_
                              refine adop_stepp [4, 5, 14, 15, 16, 68, 69, 70, 71, 83, 89, 94] [10, 13] (ob := ((nonev.getD (((l.getD (v16).toNat z3).2.1).toNat) false) = true → True)) (st' := (⟨101, [(4, [], .v (.c (.own 10))), (5, [], .v (.c (.own 13))), (14, [], .v (.c (.p (.sl t3) l))), (15, [], .v (.c (.pI (l.length : Int)))), (16, [], .v (.c (.pI v16))), (68, [], .v (.c (.own 10))), (69, [], .v (.c (.pI v16))), (70, [], .v (.c (.own 13))), (71, [], .v (.c (.pI v16))), (83, [], .v (.c (.pB ((empty.getD (((l.getD (v16).toNat z3).2.1).toNat) false) || (empty.getD (((l.getD (v16).toNat z3).2.2).toNat) false))))), (89, [], .v (.c (.pB (nonev.getD (((l.getD (v16).toNat z3).2.1).toNat) false)))), (94, [(89, true)], .v (.c (.pB (nonev.getD (((l.getD (v16).toNat z3).2.2).toNat) false))))], [(10, [], .arr 4 .bool empty), (13, [], .arr 4 .bool nonev)]⟩ : St)) rfl (by kernel_rfl) (fun _ => trivial) ?_
                              obtain ⟨o1, h⟩ := h
                              refine awd_runp (by kernel_rfl) [27, 28] [4, 5, 14, 15, 16, 70, 71, 83, 95, 96] [10, 13] (ob := (True ∧ inIdx v16 empty.length ∧ True)) (done' := [28, 27, 26, 25, 24, 23, 22, 21, 20, 15, 14, 13, 12, 11, 10, 9, 8, 19, 18, 17, 16, 7, 6, 5, 4, 3, 2, 1, 0]) (st' := (⟨101, [(4, [], .v (.c (.own 10))), (5, [], .v (.c (.own 13))), (14, [], .v (.c (.p (.sl t3) l))), (15, [], .v (.c (.pI (l.length : Int)))), (16, [], .v (.c (.pI v16))), (70, [], .v (.c (.own 13))), (71, [], .v (.c (.pI v16))), (83, [], .v (.c (.pB ((empty.getD (((l.getD (v16).toNat z3).2.1).toNat) false) || (empty.getD (((l.getD (v16).toNat z3).2.2).toNat) false))))), (95, [], .v (.c (.pB ((nonev.getD (((l.getD (v16).toNat z3).2.1).toNat) false) && (nonev.getD (((l.getD (v16).toNat z3).2.2).toNat) false))))), (96, [], .v (.c (.el 10 ((v16).toNat) 1)))], [(10, [], .arr 4 .bool empty), (13, [], .arr 4 .bool nonev)]⟩ : St)) (by kernel_rfl) ⟨trivial, o1, trivial⟩ ?_
                              exact m4 h
                            · refine awd_memo ((inIdx v16 empty.length ∧ (inIdx v16 nonev.length ∧ VC49_k7 v16 X1 (empty.set ((v16).toNat) ((empty.getD (((l.getD (v16).toNat z3).2.1).toNat) false) || (empty.getD (((l.getD (v16).toNat z3).2.2).toNat) false))) (nonev.set ((v16).toNat) ((nonev.getD (((l.getD (v16).toNat z3).2.1).toNat) false) && (nonev.getD (((l.getD (v16).toNat z3).2.2).toNat) false)))))) [25, 24, 23, 22, 21, 20, 13, 12, 11, 10, 9, 8, 19, 18, 17, 16, 7, 6, 5, 4, 3, 2, 1, 0] (⟨101, [(4, [], .v (.c (.own 10))), (5, [], .v (.c (.own 13))), (14, [], .v (.c (.p (.sl t3) l))), (15, [], .v (.c (.pI (l.length : Int)))), (16, [], .v (.c (.pI v16))), (68, [], .v (.c (.own 10))), (69, [], .v (.c (.pI v16))), (70, [], .v (.c (.own 13))), (71, [], .v (.c (.pI v16))), (77, [], .v (.c (.pB (empty.getD (((l.getD (v16).toNat z3).2.1).toNat) false)))), (81, [(77, false)], .v (.c (.el 10 (((l.getD (v16).toNat z3).2.2).toNat) 1))), (89, [], .v (.c (.pB (nonev.getD (((l.getD (v16).toNat z3).2.1).toNat) false)))), (93, [(89, true)], .v (.c (.el 13 (((l.getD (v16).toNat z3).2.2).toNat) 1)))], [(10, [], .arr 4 .bool empty), (13, [], .arr 4 .bool nonev)]⟩ : St) (fun h => ?_) (fun m6 => ?_)
                              · refine awd_two (i := 14) (j := 26) (by kernel_rfl) ?_ ?_
                                · have h := h
                                  refine adop_stepp [4, 5, 14, 15, 16, 68, 69, 70, 71, 77, 82, 89, 93] [10, 13] (ob := ((empty.getD (((l.getD (v16).toNat z3).2.1).toNat) false) = false → True)) (st' := (⟨101, [(4, [], .v (.c (.own 10))), (5, [], .v (.c (.own 13))), (14, [], .v (.c (.p (.sl t3) l))), (15, [], .v (.c (.pI (l.length : Int)))), (16, [], .v (.c (.pI v16))), (68, [], .v (.c (.own 10))), (69, [], .v (.c (.pI v16))), (70, [], .v (.c (.own 13))), (71, [], .v (.c (.pI v16))), (77, [], .v (.c (.pB (empty.getD (((l.getD (v16).toNat z3).2.1).toNat) false)))), (82, [(77, false)], .v (.c (.pB (empty.getD (((l.getD (v16).toNat z3).2.2).toNat) false)))), (89, [], .v (.c (.pB (nonev.getD (((l.getD (v16).toNat z3).2.1).toNat) false)))), (93, [(89, true)], .v (.c (.el 13 (((l.getD (v16).toNat z3).2.2).toNat) 1)))], [(10, [], .arr 4 .bool empty), (13, [], .arr 4 .bool nonev)]⟩ : St)) rfl (by kernel_rfl) (fun _ => trivial) ?_
                                  refine awd_runp (by kernel_rfl) [15] [4, 5, 14, 15, 16, 68, 69, 70, 71, 83, 89, 93] [10, 13] (ob := (True ∧ True)) (done' := [15, 14, 25, 24, 23, 22, 21, 20, 13, 12, 11, 10, 9, 8, 19, 18, 17, 16, 7, 6, 5, 4, 3, 2, 1, 0]) (st' := (⟨101, [(4, [], .v (.c (.own 10))), (5, [], .v (.c (.own 13))), (14, [], .v (.c (.p (.sl t3) l))), (15, [], .v (.c (.pI (l.length : Int)))), (16, [], .v (.c (.pI v16))), (68, [], .v (.c (.own 10))), (69, [], .v (.c (.pI v16))), (70, [], .v (.c (.own 13))), (71, [], .v (.c (.pI v16))), (83, [], .v (.c (.pB ((empty.getD (((l.getD (v16).toNat z3).2.1).toNat) false) || (empty.getD (((l.getD (v16).toNat z3).2.2).toNat) false))))), (89, [], .v (.c (.pB (nonev.getD (((l.getD (v16).toNat z3).2.1).toNat) false)))), (93, [(89, true)], .v (.c (.el 13 (((l.getD (v16).toNat z3).2.2).toNat) 1)))], [(10, [], .arr 4 .bool empty), (13, [], .arr 4 .bool nonev)]⟩ : St)) (by kernel_rfl) ⟨trivial, trivial⟩ ?_
                                  refine awd_perm [25, 24, 23, 22, 21, 20, 15, 14, 13, 12, 11, 10, 9, 8, 19, 18, 17, 16, 7, 6, 5, 4, 3, 2, 1, 0] (by kernel_rfl) (by kernel_rfl) ?_
                                  exact m5 h
                                · have h := h
                                  refine adop_stepp [4, 5, 14, 15, 16, 68, 69, 70, 71, 77, 81, 89, 94] [10, 13] (ob := ((nonev.getD (((l.getD (v16).toNat z3).2.1).toNat) false) = true → True)) (st' := (⟨101, [(4, [], .v (.c (.own 10))), (5, [], .v (.c (.own 13))), (14, [], .v (.c (.p (.sl t3) l))), (15, [], .v (.c (.pI (l.length : Int)))), (16, [], .v (.c (.pI v16))), (68, [], .v (.c (.own 10))), (69, [], .v (.c (.pI v16))), (70, [], .v (.c (.own 13))), (71, [], .v (.c (.pI v16))), (77, [], .v (.c (.pB (empty.getD (((l.getD (v16).toNat z3).2.1).toNat) false)))), (81, [(77, false)], .v (.c (.el 10 (((l.getD (v16).toNat z3).2.2).toNat) 1))), (89, [], .v (.c (.pB (nonev.getD (((l.getD (v16).toNat z3).2.1).toNat) false)))), (94, [(89, true)], .v (.c (.pB (nonev.getD (((l.getD (v16).toNat z3).2.2).toNat) false))))], [(10, [], .arr 4 .bool empty), (13, [], .arr 4 .bool nonev)]⟩ : St)) rfl (by kernel_rfl) (fun _ => trivial) ?_
                                  refine awd_runp (by kernel_rfl) [27] [4, 5, 14, 15, 16, 68, 69, 70, 71, 77, 81, 95] [10, 13] (ob := (True ∧ True)) (done' := [27, 26, 25, 24, 23, 22, 21, 20, 13, 12, 11, 10, 9, 8, 19, 18, 17, 16, 7, 6, 5, 4, 3, 2, 1, 0]) (st' := (⟨101, [(4, [], .v (.c (.own 10))), (5, [], .v (.c (.own 13))), (14, [], .v (.c (.p (.sl t3) l))), (15, [], .v (.c (.pI (l.length : Int)))), (16, [], .v (.c (.pI v16))), (68, [], .v (.c (.own 10))), (69, [], .v (.c (.pI v16))), (70, [], .v (.c (.own 13))), (71, [], .v (.c (.pI v16))), (77, [], .v (.c (.pB (empty.getD (((l.getD (v16).toNat z3).2.1).toNat) false)))), (81, [(77, false)], .v (.c (.el 10 (((l.getD (v16).toNat z3).2.2).toNat) 1))), (95, [], .v (.c (.pB ((nonev.getD (((l.getD (v16).toNat z3).2.1).toNat) false) && (nonev.getD (((l.getD (v16).toNat z3).2.2).toNat) false)))))], [(10, [], .arr 4 .bool empty), (13, [], .arr 4 .bool nonev)]⟩ : St)) (by kernel_rfl) ⟨trivial, trivial⟩ ?_
                                  refine awd_one (i := 14) (by kernel_rfl) ?_
                                  refine adop_stepp [4, 5, 14, 15, 16, 68, 69, 70, 71, 77, 82, 95] [10, 13] (ob := ((empty.getD (((l.getD (v16).toNat z3).2.1).toNat) false) = false → True)) (st' := (⟨101, [(4, [], .v (.c (.own 10))), (5, [], .v (.c (.own 13))), (14, [], .v (.c (.p (.sl t3) l))), (15, [], .v (.c (.pI (l.length : Int)))), (16, [], .v (.c (.pI v16))), (68, [], .v (.c (.own 10))), (69, [], .v (.c (.pI v16))), (70, [], .v (.c (.own 13))), (71, [], .v (.c (.pI v16))), (77, [], .v (.c (.pB (empty.getD (((l.getD (v16).toNat z3).2.1).toNat) false)))), (82, [(77, false)], .v (.c (.pB (empty.getD (((l.getD (v16).toNat z3).2.2).toNat) false)))), (95, [], .v (.c (.pB ((nonev.getD (((l.getD (v16).toNat z3).2.1).toNat) false) && (nonev.getD (((l.getD (v16).toNat z3).2.2).toNat) false)))))], [(10, [], .arr 4 .bool empty), (13, [], .arr 4 .bool nonev)]⟩ : St)) rfl (by kernel_rfl) (fun _ => trivial) ?_
                                  obtain ⟨o1, h⟩ := h
                                  refine awd_runp (by kernel_rfl) [15, 28] [4, 5, 14, 15, 16, 70, 71, 83, 95, 96] [10, 13] (ob := (True ∧ inIdx v16 empty.length ∧ True)) (done' := [28, 15, 14, 27, 26, 25, 24, 23, 22, 21, 20, 13, 12, 11, 10, 9, 8, 19, 18, 17, 16, 7, 6, 5, 4, 3, 2, 1, 0]) (st' := (⟨101, [(4, [], .v (.c (.own 10))), (5, [], .v (.c (.own 13))), (14, [], .v (.c (.p (.sl t3) l))), (15, [], .v (.c (.pI (l.length : Int)))), (16, [], .v (.c (.pI v16))), (70, [], .v (.c (.own 13))), (71, [], .v (.c (.pI v16))), (83, [], .v (.c (.pB ((empty.getD (((l.getD (v16).toNat z3).2.1).toNat) false) || (empty.getD (((l.getD (v16).toNat z3).2.2).toNat) false))))), (95, [], .v (.c (.pB ((nonev.getD (((l.getD (v16).toNat z3).2.1).toNat) false) && (nonev.getD (((l.getD (v16).toNat z3).2.2).toNat) false))))), (96, [], .v (.c (.el 10 ((v16).toNat) 1)))], [(10, [], .arr 4 .bool empty), (13, [], .arr 4 .bool nonev)]⟩ : St)) (by kernel_rfl) ⟨trivial, o1, trivial⟩ ?_
                                  refine awd_perm [28, 27, 26, 25, 24, 23, 22, 21, 20, 15, 14, 13, 12, 11, 10, 9, 8, 19, 18, 17, 16, 7, 6, 5, 4, 3, 2, 1, 0] (by kernel_rfl) (by kernel_rfl) ?_
                                  exact m4 h
                              · obtain ⟨o1, o2, h⟩ := h
                                refine awd_runp (by kernel_rfl) [0, 1, 2, 3, 4, 5, 6, 7, 16, 17, 18, 19] [4, 5, 7, 14, 15, 16, 68, 69, 70, 71, 75, 87] [7, 10, 13] (ob := (True ∧ True ∧ True ∧ True ∧ True ∧ True ∧ True ∧ inIdx ((l.getD (v16).toNat z3).2.1) empty.length ∧ True ∧ True ∧ True ∧ inIdx ((l.getD (v16).toNat z3).2.1) nonev.length ∧ True)) (done' := [19, 18, 17, 16, 7, 6, 5, 4, 3, 2, 1, 0]) (st' := (⟨101, [(4, [], .v (.c (.own 10))), (5, [], .v (.c (.own 13))), (7, [], .v (.c (.ptr 7 0))), (14, [], .v (.c (.p (.sl t3) l))), (15, [], .v (.c (.pI (l.length : Int)))), (16, [], .v (.c (.pI v16))), (68, [], .v (.c (.own 10))), (69, [], .v (.c (.pI v16))), (70, [], .v (.c (.own 13))), (71, [], .v (.c (.pI v16))), (75, [], .v (.c (.el 10 (((l.getD (v16).toNat z3).2.1).toNat) 1))), (87, [], .v (.c (.el 13 (((l.getD (v16).toNat z3).2.1).toNat) 1)))], [(7, [], .box [.pI ((l.getD (v16).toNat z3).1), .pI ((l.getD (v16).toNat z3).2.1), .pI ((l.getD (v16).toNat z3).2.2)]), (10, [], .arr 4 .bool empty), (13, [], .arr 4 .bool nonev)]⟩ : St)) (by kernel_rfl) ⟨trivial, trivial, trivial, trivial, trivial, trivial, trivial, o1, trivial, trivial, trivial, o2, trivial⟩ ?_
                                refine awd_two (i := 8) (j := 20) (by kernel_rfl) ?_ ?_
                                · have h := h.1
                                  refine adop_stepp [4, 5, 7, 14, 15, 16, 68, 69, 70, 71, 76, 87] [7, 10, 13] (ob := True) (st' := (⟨101, [(4, [], .v (.c (.own 10))), (5, [], .v (.c (.own 13))), (7, [], .v (.c (.ptr 7 0))), (14, [], .v (.c (.p (.sl t3) l))), (15, [], .v (.c (.pI (l.length : Int)))), (16, [], .v (.c (.pI v16))), (68, [], .v (.c (.own 10))), (69, [], .v (.c (.pI v16))), (70, [], .v (.c (.own 13))), (71, [], .v (.c (.pI v16))), (76, [], .v (.c (.pB (empty.getD (((l.getD (v16).toNat z3).2.1).toNat) false)))), (87, [], .v (.c (.el 13 (((l.getD (v16).toNat z3).2.1).toNat) 1)))], [(7, [], .box [.pI ((l.getD (v16).toNat z3).1), .pI ((l.getD (v16).toNat z3).2.1), .pI ((l.getD (v16).toNat z3).2.2)]), (10, [], .arr 4 .bool empty), (13, [], .arr 4 .bool nonev)]⟩ : St)) rfl (by kernel_rfl) trivial ?_
                                  obtain ⟨o1, h⟩ := h
                                  refine awd_runp (by kernel_rfl) [9, 10, 11, 12, 13] [4, 5, 7, 14, 15, 16, 68, 69, 70, 71, 77, 81, 87] [7, 10, 13] (ob := (True ∧ ((empty.getD (((l.getD (v16).toNat z3).2.1).toNat) false) = false → True) ∧ ((empty.getD (((l.getD (v16).toNat z3).2.1).toNat) false) = false → True) ∧ ((empty.getD (((l.getD (v16).toNat z3).2.1).toNat) false) = false → True) ∧ ((empty.getD (((l.getD (v16).toNat z3).2.1).toNat) false) = false → inIdx ((l.getD (v16).toNat z3).2.2) empty.length) ∧ True)) (done' := [13, 12, 11, 10, 9, 8, 19, 18, 17, 16, 7, 6, 5, 4, 3, 2, 1, 0]) (st' := (⟨101, [(4, [], .v (.c (.own 10))), (5, [], .v (.c (.own 13))), (7, [], .v (.c (.ptr 7 0))), (14, [], .v (.c (.p (.sl t3) l))), (15, [], .v (.c (.pI (l.length : Int)))), (16, [], .v (.c (.pI v16))), (68, [], .v (.c (.own 10))), (69, [], .v (.c (.pI v16))), (70, [], .v (.c (.own 13))), (71, [], .v (.c (.pI v16))), (77, [], .v (.c (.pB (empty.getD (((l.getD (v16).toNat z3).2.1).toNat) false)))), (81, [(77, false)], .v (.c (.el 10 (((l.getD (v16).toNat z3).2.2).toNat) 1))), (87, [], .v (.c (.el 13 (((l.getD (v16).toNat z3).2.1).toNat) 1)))], [(7, [], .box [.pI ((l.getD (v16).toNat z3).1), .pI ((l.getD (v16).toNat z3).2.1), .pI ((l.getD (v16).toNat z3).2.2)]), (10, [], .arr 4 .bool empty), (13, [], .arr 4 .bool nonev)]⟩ : St)) (by kernel_rfl) ⟨trivial, (fun _ => trivial), (fun _ => trivial), (fun _ => trivial), o1, trivial⟩ ?_
                                  refine awd_two (i := 14) (j := 20) (by kernel_rfl) ?_ ?_
                                  · have h := h
                                    refine adop_stepp [4, 5, 7, 14, 15, 16, 68, 69, 70, 71, 77, 82, 87] [7, 10, 13] (ob := ((empty.getD (((l.getD (v16).toNat z3).2.1).toNat) false) = false → True)) (st' := (⟨101, [(4, [], .v (.c (.own 10))), (5, [], .v (.c (.own 13))), (7, [], .v (.c (.ptr 7 0))), (14, [], .v (.c (.p (.sl t3) l))), (15, [], .v (.c (.pI (l.length : Int)))), (16, [], .v (.c (.pI v16))), (68, [], .v (.c (.own 10))), (69, [], .v (.c (.pI v16))), (70, [], .v (.c (.own 13))), (71, [], .v (.c (.pI v16))), (77, [], .v (.c (.pB (empty.getD (((l.getD (v16).toNat z3).2.1).toNat) false)))), (82, [(77, false)], .v (.c (.pB (empty.getD (((l.getD (v16).toNat z3).2.2).toNat) false)))), (87, [], .v (.c (.el 13 (((l.getD (v16).toNat z3).2.1).toNat) 1)))], [(7, [], .box [.pI ((l.getD (v16).toNat z3).1), .pI ((l.getD (v16).toNat z3).2.1), .pI ((l.getD (v16).toNat z3).2.2)]), (10, [], .arr 4 .bool empty), (13, [], .arr 4 .bool nonev)]⟩ : St)) rfl (by kernel_rfl) (fun _ => trivial) ?_
                                    refine awd_runp (by kernel_rfl) [15] [4, 5, 7, 14, 15, 16, 68, 69, 70, 71, 83, 87] [7, 10, 13] (ob := (True ∧ True)) (done' := [15, 14, 13, 12, 11, 10, 9, 8, 19, 18, 17, 16, 7, 6, 5, 4, 3, 2, 1, 0]) (st' := (⟨101, [(4, [], .v (.c (.own 10))), (5, [], .v (.c (.own 13))), (7, [], .v (.c (.ptr 7 0))), (14, [], .v (.c (.p (.sl t3) l))), (15, [], .v (.c (.pI (l.length : Int)))), (16, [], .v (.c (.pI v16))), (68, [], .v (.c (.own 10))), (69, [], .v (.c (.pI v16))), (70, [], .v (.c (.own 13))), (71, [], .v (.c (.pI v16))), (83, [], .v (.c (.pB ((empty.getD (((l.getD (v16).toNat z3).2.1).toNat) false) || (empty.getD (((l.getD (v16).toNat z3).2.2).toNat) false))))), (87, [], .v (.c (.el 13 (((l.getD (v16).toNat z3).2.1).toNat) 1)))], [(7, [], .box [.pI ((l.getD (v16).toNat z3).1), .pI ((l.getD (v16).toNat z3).2.1), .pI ((l.getD (v16).toNat z3).2.2)]), (10, [], .arr 4 .bool empty), (13, [], .arr 4 .bool nonev)]⟩ : St)) (by kernel_rfl) ⟨trivial, trivial⟩ ?_
                                    refine awd_one (i := 20) (by kernel_rfl) ?_
                                    refine adop_stepp [4, 5, 7, 14, 15, 16, 68, 69, 70, 71, 83, 88] [7, 10, 13] (ob := True) (st' := (⟨101, [(4, [], .v (.c (.own 10))), (5, [], .v (.c (.own 13))), (7, [], .v (.c (.ptr 7 0))), (14, [], .v (.c (.p (.sl t3) l))), (15, [], .v (.c (.pI (l.length : Int)))), (16, [], .v (.c (.pI v16))), (68, [], .v (.c (.own 10))), (69, [], .v (.c (.pI v16))), (70, [], .v (.c (.own 13))), (71, [], .v (.c (.pI v16))), (83, [], .v (.c (.pB ((empty.getD (((l.getD (v16).toNat z3).2.1).toNat) false) || (empty.getD (((l.getD (v16).toNat z3).2.2).toNat) false))))), (88, [], .v (.c (.pB (nonev.getD (((l.getD (v16).toNat z3).2.1).toNat) false))))], [(7, [], .box [.pI ((l.getD (v16).toNat z3).1), .pI ((l.getD (v16).toNat z3).2.1), .pI ((l.getD (v16).toNat z3).2.2)]), (10, [], .arr 4 .bool empty), (13, [], .arr 4 .bool nonev)]⟩ : St)) rfl (by kernel_rfl) trivial ?_
                                    obtain ⟨o1, h⟩ := h
                                    refine awd_runp (by kernel_rfl) [21, 22, 23, 24, 25] [4, 5, 14, 15, 16, 68, 69, 70, 71, 83, 89, 93] [10, 13] (ob := (True ∧ ((nonev.getD (((l.getD (v16).toNat z3).2.1).toNat) false) = true → True) ∧ ((nonev.getD (((l.getD (v16).toNat z3).2.1).toNat) false) = true → True) ∧ ((nonev.getD (((l.getD (v16).toNat z3).2.1).toNat) false) = true → True) ∧ ((nonev.getD (((l.getD (v16).toNat z3).2.1).toNat) false) = true → inIdx ((l.getD (v16).toNat z3).2.2) nonev.length) ∧ True)) (done' := [25, 24, 23, 22, 21, 20, 15, 14, 13, 12, 11, 10, 9, 8, 19, 18, 17, 16, 7, 6, 5, 4, 3, 2, 1, 0]) (st' := (⟨101, [(4, [], .v (.c (.own 10))), (5, [], .v (.c (.own 13))), (14, [], .v (.c (.p (.sl t3) l))), (15, [], .v (.c (.pI (l.length : Int)))), (16, [], .v (.c (.pI v16))), (68, [], .v (.c (.own 10))), (69, [], .v (.c (.pI v16))), (70, [], .v (.c (.own 13))), (71, [], .v (.c (.pI v16))), (83, [], .v (.c (.pB ((empty.getD (((l.getD (v16).toNat z3).2.1).toNat) false) || (empty.getD (((l.getD (v16).toNat z3).2.2).toNat) false))))), (89, [], .v (.c (.pB (nonev.getD (((l.getD (v16).toNat z3).2.1).toNat) false)))), (93, [(89, true)], .v (.c (.el 13 (((l.getD (v16).toNat z3).2.2).toNat) 1)))], [(10, [], .arr 4 .bool empty), (13, [], .arr 4 .bool nonev)]⟩ : St)) (by kernel_rfl) ⟨trivial, (fun _ => trivial), (fun _ => trivial), (fun _ => trivial), o1, trivial⟩ ?_
                                    exact m5 h
                                  · have h := h
                                    refine adop_stepp [4, 5, 7, 14, 15, 16, 68, 69, 70, 71, 77, 81, 88] [7, 10, 13] (ob := True) (st' := (⟨101, [(4, [], .v (.c (.own 10))), (5, [], .v (.c (.own 13))), (7, [], .v (.c (.ptr 7 0))), (14, [], .v (.c (.p (.sl t3) l))), (15, [], .v (.c (.pI (l.length : Int)))), (16, [], .v (.c (.pI v16))), (68, [], .v (.c (.own 10))), (69, [], .v (.c (.pI v16))), (70, [], .v (.c (.own 13))), (71, [], .v (.c (.pI v16))), (77, [], .v (.c (.pB (empty.getD (((l.getD (v16).toNat z3).2.1).toNat) false)))), (81, [(77, false)], .v (.c (.el 10 (((l.getD (v16).toNat z3).2.2).toNat) 1))), (88, [], .v (.c (.pB (nonev.getD (((l.getD (v16).toNat z3).2.1).toNat) false))))], [(7, [], .box [.pI ((l.getD (v16).toNat z3).1), .pI ((l.getD (v16).toNat z3).2.1), .pI ((l.getD (v16).toNat z3).2.2)]), (10, [], .arr 4 .bool empty), (13, [], .arr 4 .bool nonev)]⟩ : St)) rfl (by kernel_rfl) trivial ?_
                                    obtain ⟨o1, h⟩ := h
                                    refine awd_runp (by kernel_rfl) [21, 22, 23, 24, 25] [4, 5, 14, 15, 16, 68, 69, 70, 71, 77, 81, 89, 93] [10, 13] (ob := (True ∧ ((nonev.getD (((l.getD (v16).toNat z3).2.1).toNat) false) = true → True) ∧ ((nonev.getD (((l.getD (v16).toNat z3).2.1).toNat) false) = true → True) ∧ ((nonev.getD (((l.getD (v16).toNat z3).2.1).toNat) false) = true → True) ∧ ((nonev.getD (((l.getD (v16).toNat z3).2.1).toNat) false) = true → inIdx ((l.getD (v16).toNat z3).2.2) nonev.length) ∧ True)) (done' := [25, 24, 23, 22, 21, 20, 13, 12, 11, 10, 9, 8, 19, 18, 17, 16, 7, 6, 5, 4, 3, 2, 1, 0]) (st' := (⟨101, [(4, [], .v (.c (.own 10))), (5, [], .v (.c (.own 13))), (14, [], .v (.c (.p (.sl t3) l))), (15, [], .v (.c (.pI (l.length : Int)))), (16, [], .v (.c (.pI v16))), (68, [], .v (.c (.own 10))), (69, [], .v (.c (.pI v16))), (70, [], .v (.c (.own 13))), (71, [], .v (.c (.pI v16))), (77, [], .v (.c (.pB (empty.getD (((l.getD (v16).toNat z3).2.1).toNat) false)))), (81, [(77, false)], .v (.c (.el 10 (((l.getD (v16).toNat z3).2.2).toNat) 1))), (89, [], .v (.c (.pB (nonev.getD (((l.getD (v16).toNat z3).2.1).toNat) false)))), (93, [(89, true)], .v (.c (.el 13 (((l.getD (v16).toNat z3).2.2).toNat) 1)))], [(10, [], .arr 4 .bool empty), (13, [], .arr 4 .bool nonev)]⟩ : St)) (by kernel_rfl) ⟨trivial, (fun _ => trivial), (fun _ => trivial), (fun _ => trivial), o1, trivial⟩ ?_
                                    exact m6 h
                                · have h := h.2
                                  refine adop_stepp [4, 5, 7, 14, 15, 16, 68, 69, 70, 71, 75, 88] [7, 10, 13] (ob := True) (st' := (⟨101, [(4, [], .v (.c (.own 10))), (5, [], .v (.c (.own 13))), (7, [], .v (.c (.ptr 7 0))), (14, [], .v (.c (.p (.sl t3) l))), (15, [], .v (.c (.pI (l.length : Int)))), (16, [], .v (.c (.pI v16))), (68, [], .v (.c (.own 10))), (69, [], .v (.c (.pI v16))), (70, [], .v (.c (.own 13))), (71, [], .v (.c (.pI v16))), (75, [], .v (.c (.el 10 (((l.getD (v16).toNat z3).2.1).toNat) 1))), (88, [], .v (.c (.pB (nonev.getD (((l.getD (v16).toNat z3).2.1).toNat) false))))], [(7, [], .box [.pI ((l.getD (v16).toNat z3).1), .pI ((l.getD (v16).toNat z3).2.1), .pI ((l.getD (v16).toNat z3).2.2)]), (10, [], .arr 4 .bool empty), (13, [], .arr 4 .bool nonev)]⟩ : St)) rfl (by kernel_rfl) trivial ?_
                                  refine awd_one (i := 8) (by kernel_rfl) ?_
                                  refine adop_stepp [4, 5, 7, 14, 15, 16, 68, 69, 70, 71, 76, 88] [7, 10, 13] (ob := True) (st' := (⟨101, [(4, [], .v (.c (.own 10))), (5, [], .v (.c (.own 13))), (7, [], .v (.c (.ptr 7 0))), (14, [], .v (.c (.p (.sl t3) l))), (15, [], .v (.c (.pI (l.length : Int)))), (16, [], .v (.c (.pI v16))), (68, [], .v (.c (.own 10))), (69, [], .v (.c (.pI v16))), (70, [], .v (.c (.own 13))), (71, [], .v (.c (.pI v16))), (76, [], .v (.c (.pB (empty.getD (((l.getD (v16).toNat z3).2.1).toNat) false)))), (88, [], .v (.c (.pB (nonev.getD (((l.getD (v16).toNat z3).2.1).toNat) false))))], [(7, [], .box [.pI ((l.getD (v16).toNat z3).1), .pI ((l.getD (v16).toNat z3).2.1), .pI ((l.getD (v16).toNat z3).2.2)]), (10, [], .arr 4 .bool empty), (13, [], .arr 4 .bool nonev)]⟩ : St)) rfl (by kernel_rfl) trivial ?_
                                  obtain ⟨o1, o2, h⟩ := h
                                  refine awd_runp (by kernel_rfl) [9, 10, 11, 12, 13, 21, 22, 23, 24, 25] [4, 5, 14, 15, 16, 68, 69, 70, 71, 77, 81, 89, 93] [10, 13] (ob := (True ∧ ((empty.getD (((l.getD (v16).toNat z3).2.1).toNat) false) = false → True) ∧ ((empty.getD (((l.getD (v16).toNat z3).2.1).toNat) false) = false → True) ∧ ((empty.getD (((l.getD (v16).toNat z3).2.1).toNat) false) = false → True) ∧ ((empty.getD (((l.getD (v16).toNat z3).2.1).toNat) false) = false → inIdx ((l.getD (v16).toNat z3).2.2) empty.length) ∧ True ∧ ((nonev.getD (((l.getD (v16).toNat z3).2.1).toNat) false) = true → True) ∧ ((nonev.getD (((l.getD (v16).toNat z3).2.1).toNat) false) = true → True) ∧ ((nonev.getD (((l.getD (v16).toNat z3).2.1).toNat) false) = true → True) ∧ ((nonev.getD (((l.getD (v16).toNat z3).2.1).toNat) false) = true → inIdx ((l.getD (v16).toNat z3).2.2) nonev.length) ∧ True)) (done' := [25, 24, 23, 22, 21, 13, 12, 11, 10, 9, 8, 20, 19, 18, 17, 16, 7, 6, 5, 4, 3, 2, 1, 0]) (st' := (⟨101, [(4, [], .v (.c (.own 10))), (5, [], .v (.c (.own 13))), (14, [], .v (.c (.p (.sl t3) l))), (15, [], .v (.c (.pI (l.length : Int)))), (16, [], .v (.c (.pI v16))), (68, [], .v (.c (.own 10))), (69, [], .v (.c (.pI v16))), (70, [], .v (.c (.own 13))), (71, [], .v (.c (.pI v16))), (77, [], .v (.c (.pB (empty.getD (((l.getD (v16).toNat z3).2.1).toNat) false)))), (81, [(77, false)], .v (.c (.el 10 (((l.getD (v16).toNat z3).2.2).toNat) 1))), (89, [], .v (.c (.pB (nonev.getD (((l.getD (v16).toNat z3).2.1).toNat) false)))), (93, [(89, true)], .v (.c (.el 13 (((l.getD (v16).toNat z3).2.2).toNat) 1)))], [(10, [], .arr 4 .bool empty), (13, [], .arr 4 .bool nonev)]⟩ : St)) (by kernel_rfl) ⟨trivial, (fun _ => trivial), (fun _ => trivial), (fun _ => trivial), o1, trivial, (fun _ => trivial), (fun _ => trivial), (fun _ => trivial), o2, trivial⟩ ?_
                                  refine awd_perm [25, 24, 23, 22, 21, 20, 13, 12, 11, 10, 9, 8, 19, 18, 17, 16, 7, 6, 5, 4, 3, 2, 1, 0] (by kernel_rfl) (by kernel_rfl) ?_
                                  exact m6 h
                        · have h := h.2 hb
                          refine aw_conv [.prune [4, 5, 14, 15, 16] [10, 13]] (st' := (⟨101, [(4, [], .v (.c (.own 10))), (5, [], .v (.c (.own 13))), (14, [], .v (.c (.p (.sl t3) l))), (15, [], .v (.c (.pI (l.length : Int)))), (16, [], .v (.c (.pI v16)))], [(10, [], .arr 4 .bool empty), (13, [], .arr 4 .bool nonev)]⟩ : St)) (by kernel_rfl) ?_
                          refine aw_skip ?_
                          exact rest5 (empty, nonev) h
            · refine aw_cond (b := (decide ((l.getD (v16).toNat z3).1 = (2 : Int)))) (by kernel_rfl) (fun hb => ?_) (fun hb => ?_)
              · have h := h.1 hb
                refine aw_skip ?_
                exact rest6 (decide ((l.getD (v16).toNat z3).1 = (2 : Int))) h
              · have h := h.2 hb
                refine aw_region ?_
                refine awl_runp 2 [4, 5, 6, 7, 14, 15, 16, 22, 28] [7, 10, 13] (ob := (True ∧ True ∧ True)) (st' := (⟨101, [(4, [], .v (.c (.own 10))), (5, [], .v (.c (.own 13))), (6, [], .v (.c (.pI v16))), (7, [], .v (.c (.ptr 7 0))), (14, [], .v (.c (.p (.sl t3) l))), (15, [], .v (.c (.pI (l.length : Int)))), (16, [], .v (.c (.pI v16))), (22, [], .v (.c (.pI ((l.getD (v16).toNat z3).1)))), (28, [], .v (.c (.pB (decide ((l.getD (v16).toNat z3).1 = (6 : Int))))))], [(7, [], .box [.pI ((l.getD (v16).toNat z3).1), .pI ((l.getD (v16).toNat z3).2.1), .pI ((l.getD (v16).toNat z3).2.2)]), (10, [], .arr 4 .bool empty), (13, [], .arr 4 .bool nonev)]⟩ : St)) (by kernel_rfl) ⟨trivial, trivial, trivial⟩ ?_
                refine awl_nil ?_
                exact rest6 (decide ((l.getD (v16).toNat z3).1 = (6 : Int))) h
      · have h := h.2 hb
        refine aw_conv [.prune [4, 5] [10, 13]] (st' := (⟨101, [(4, [], .v (.c (.own 10))), (5, [], .v (.c (.own 13)))], [(10, [], .arr 4 .bool empty), (13, [], .arr 4 .bool nonev)]⟩ : St)) (by kernel_rfl) ?_
        refine aw_exit ?_
        refine thenQ_x ?_
        refine thenQ_x ?_
        refine blockQ_hit ?_
        exact rest1 (empty, nonev) h
  · refine awd_begin [] (by kernel_rfl) ?_
    refine awd_runp (by kernel_rfl) [0, 1, 3, 4] [0, 9, 12] [] (ob := (True ∧ True ∧ True ∧ True ∧ True)) (done' := [4, 3, 1, 0]) (st' := (⟨101, [(0, [], .v (.c (.p (.sl t3) l))), (9, [], .v (.c (.pI (l.length : Int)))), (12, [], .v (.c (.pI (l.length : Int))))], []⟩ : St)) (by kernel_rfl) ⟨trivial, trivial, trivial, trivial, trivial⟩ ?_
    refine awd_two (i := 2) (j := 5) (by kernel_rfl) ?_ ?_
    · have h := h
      obtain ⟨o1, h⟩ := h
      refine adop_stepp [0, 10, 12] [10] (ob := room (l.length : Int)) (st' := (⟨101, [(0, [], .v (.c (.p (.sl t3) l))), (10, [], .v (.c (.own 10))), (12, [], .v (.c (.pI (l.length : Int))))], [(10, [], .arr 4 .bool (List.replicate ((l.length : Int)).toNat false))]⟩ : St)) rfl (by kernel_rfl) o1 ?_
      refine awd_runp (by kernel_rfl) [6] [0, 4, 12] [10] (ob := (True ∧ True)) (done' := [6, 2, 4, 3, 1, 0]) (st' := (⟨101, [(0, [], .v (.c (.p (.sl t3) l))), (4, [], .v (.c (.own 10))), (12, [], .v (.c (.pI (l.length : Int))))], [(10, [], .arr 4 .bool (List.replicate ((l.length : Int)).toNat false))]⟩ : St)) (by kernel_rfl) ⟨trivial, trivial⟩ ?_
      refine awd_one (i := 5) (by kernel_rfl) ?_
      obtain ⟨o1, h⟩ := h
      refine adop_stepp [0, 4, 13] [10, 13] (ob := room (l.length : Int)) (st' := (⟨101, [(0, [], .v (.c (.p (.sl t3) l))), (4, [], .v (.c (.own 10))), (13, [], .v (.c (.own 13)))], [(10, [], .arr 4 .bool (List.replicate ((l.length : Int)).toNat false)), (13, [], .arr 4 .bool (List.replicate ((l.length : Int)).toNat false))]⟩ : St)) rfl (by kernel_rfl) o1 ?_
      refine awd_runp (by kernel_rfl) [7] [0, 4, 5] [10, 13] (ob := (True ∧ True)) (done' := [7, 5, 6, 2, 4, 3, 1, 0]) (st' := (⟨101, [(0, [], .v (.c (.p (.sl t3) l))), (4, [], .v (.c (.own 10))), (5, [], .v (.c (.own 13)))], [(10, [], .arr 4 .bool (List.replicate ((l.length : Int)).toNat false)), (13, [], .arr 4 .bool (List.replicate ((l.length : Int)).toNat false))]⟩ : St)) (by kernel_rfl) ⟨trivial, trivial⟩ ?_
      refine awd_done (by kernel_rfl) ?_
      exact rest7 () h
    · have h := h
      obtain ⟨o1, h⟩ := h
      refine adop_stepp [0, 9, 13] [13] (ob := room (l.length : Int)) (st' := (⟨101, [(0, [], .v (.c (.p (.sl t3) l))), (9, [], .v (.c (.pI (l.length : Int)))), (13, [], .v (.c (.own 13)))], [(13, [], .arr 4 .bool (List.replicate ((l.length : Int)).toNat false))]⟩ : St)) rfl (by kernel_rfl) o1 ?_
      refine awd_one (i := 2) (by kernel_rfl) ?_
      obtain ⟨o1, h⟩ := h
      refine adop_stepp [0, 10, 13] [10, 13] (ob := room (l.length : Int)) (st' := (⟨101, [(0, [], .v (.c (.p (.sl t3) l))), (10, [], .v (.c (.own 10))), (13, [], .v (.c (.own 13)))], [(10, [], .arr 4 .bool (List.replicate ((l.length : Int)).toNat false)), (13, [], .arr 4 .bool (List.replicate ((l.length : Int)).toNat false))]⟩ : St)) rfl (by kernel_rfl) o1 ?_
      refine awd_runp (by kernel_rfl) [6, 7] [0, 4, 5] [10, 13] (ob := (True ∧ True ∧ True)) (done' := [7, 6, 2, 5, 4, 3, 1, 0]) (st' := (⟨101, [(0, [], .v (.c (.p (.sl t3) l))), (4, [], .v (.c (.own 10))), (5, [], .v (.c (.own 13)))], [(10, [], .arr 4 .bool (List.replicate ((l.length : Int)).toNat false)), (13, [], .arr 4 .bool (List.replicate ((l.length : Int)).toNat false))]⟩ : St)) (by kernel_rfl) ⟨trivial, trivial, trivial⟩ ?_
      refine awd_done (by kernel_rfl) ?_
      exact rest7 () h

-- (coppicer/glyph.Set).With
def VC88 (sv : LI) (p : Int) (K : LI → Prop) : Prop :=
  ((0 ≤ p ∧ 0 < (64 : Int)) ∧ inIdx (p / (64 : Int)) 5 ∧ (0 ≤ p ∧ 0 < (64 : Int)) ∧ 0 ≤ (p % (64 : Int)) ∧ (inIdx (p / (64 : Int)) 5 ∧ K [([(([(sv.getD 0 0), (sv.getD 1 0), (sv.getD 2 0), (sv.getD 3 0), (sv.getD 4 0)].set (((p / (64 : Int))).toNat) (bOr .u64 ([(sv.getD 0 0), (sv.getD 1 0), (sv.getD 2 0), (sv.getD 3 0), (sv.getD 4 0)].getD (((p / (64 : Int))).toNat) (0 : Int)) (bShl .u64 (1 : Int) (p % (64 : Int))))).getD 0 0), (([(sv.getD 0 0), (sv.getD 1 0), (sv.getD 2 0), (sv.getD 3 0), (sv.getD 4 0)].set (((p / (64 : Int))).toNat) (bOr .u64 ([(sv.getD 0 0), (sv.getD 1 0), (sv.getD 2 0), (sv.getD 3 0), (sv.getD 4 0)].getD (((p / (64 : Int))).toNat) (0 : Int)) (bShl .u64 (1 : Int) (p % (64 : Int))))).getD 1 0), (([(sv.getD 0 0), (sv.getD 1 0), (sv.getD 2 0), (sv.getD 3 0), (sv.getD 4 0)].set (((p / (64 : Int))).toNat) (bOr .u64 ([(sv.getD 0 0), (sv.getD 1 0), (sv.getD 2 0), (sv.getD 3 0), (sv.getD 4 0)].getD (((p / (64 : Int))).toNat) (0 : Int)) (bShl .u64 (1 : Int) (p % (64 : Int))))).getD 2 0), (([(sv.getD 0 0), (sv.getD 1 0), (sv.getD 2 0), (sv.getD 3 0), (sv.getD 4 0)].set (((p / (64 : Int))).toNat) (bOr .u64 ([(sv.getD 0 0), (sv.getD 1 0), (sv.getD 2 0), (sv.getD 3 0), (sv.getD 4 0)].getD (((p / (64 : Int))).toNat) (0 : Int)) (bShl .u64 (1 : Int) (p % (64 : Int))))).getD 3 0), (([(sv.getD 0 0), (sv.getD 1 0), (sv.getD 2 0), (sv.getD 3 0), (sv.getD 4 0)].set (((p / (64 : Int))).toNat) (bOr .u64 ([(sv.getD 0 0), (sv.getD 1 0), (sv.getD 2 0), (sv.getD 3 0), (sv.getD 4 0)].getD (((p / (64 : Int))).toNat) (0 : Int)) (bShl .u64 (1 : Int) (p % (64 : Int))))).getD 4 0)].getD 0 0), ([(([(sv.getD 0 0), (sv.getD 1 0), (sv.getD 2 0), (sv.getD 3 0), (sv.getD 4 0)].set (((p / (64 : Int))).toNat) (bOr .u64 ([(sv.getD 0 0), (sv.getD 1 0), (sv.getD 2 0), (sv.getD 3 0), (sv.getD 4 0)].getD (((p / (64 : Int))).toNat) (0 : Int)) (bShl .u64 (1 : Int) (p % (64 : Int))))).getD 0 0), (([(sv.getD 0 0), (sv.getD 1 0), (sv.getD 2 0), (sv.getD 3 0), (sv.getD 4 0)].set (((p / (64 : Int))).toNat) (bOr .u64 ([(sv.getD 0 0), (sv.getD 1 0), (sv.getD 2 0), (sv.getD 3 0), (sv.getD 4 0)].getD (((p / (64 : Int))).toNat) (0 : Int)) (bShl .u64 (1 : Int) (p % (64 : Int))))).getD 1 0), (([(sv.getD 0 0), (sv.getD 1 0), (sv.getD 2 0), (sv.getD 3 0), (sv.getD 4 0)].set (((p / (64 : Int))).toNat) (bOr .u64 ([(sv.getD 0 0), (sv.getD 1 0), (sv.getD 2 0), (sv.getD 3 0), (sv.getD 4 0)].getD (((p / (64 : Int))).toNat) (0 : Int)) (bShl .u64 (1 : Int) (p % (64 : Int))))).getD 2 0), (([(sv.getD 0 0), (sv.getD 1 0), (sv.getD 2 0), (sv.getD 3 0), (sv.getD 4 0)].set (((p / (64 : Int))).toNat) (bOr .u64 ([(sv.getD 0 0), (sv.getD 1 0), (sv.getD 2 0), (sv.getD 3 0), (sv.getD 4 0)].getD (((p / (64 : Int))).toNat) (0 : Int)) (bShl .u64 (1 : Int) (p % (64 : Int))))).getD 3 0), (([(sv.getD 0 0), (sv.getD 1 0), (sv.getD 2 0), (sv.getD 3 0), (sv.getD 4 0)].set (((p / (64 : Int))).toNat) (bOr .u64 ([(sv.getD 0 0), (sv.getD 1 0), (sv.getD 2 0), (sv.getD 3 0), (sv.getD 4 0)].getD (((p / (64 : Int))).toNat) (0 : Int)) (bShl .u64 (1 : Int) (p % (64 : Int))))).getD 4 0)].getD 1 0), ([(([(sv.getD 0 0), (sv.getD 1 0), (sv.getD 2 0), (sv.getD 3 0), (sv.getD 4 0)].set (((p / (64 : Int))).toNat) (bOr .u64 ([(sv.getD 0 0), (sv.getD 1 0), (sv.getD 2 0), (sv.getD 3 0), (sv.getD 4 0)].getD (((p / (64 : Int))).toNat) (0 : Int)) (bShl .u64 (1 : Int) (p % (64 : Int))))).getD 0 0), (([(sv.getD 0 0), (sv.getD 1 0), (sv.getD 2 0), (sv.getD 3 0), (sv.getD 4 0)].set (((p / (64 : Int))).toNat) (bOr .u64 ([(sv.getD 0 0), (sv.getD 1 0), (sv.getD 2 0), (sv.getD 3 0), (sv.getD 4 0)].getD (((p / (64 : Int))).toNat) (0 : Int)) (bShl .u64 (1 : Int) (p % (64 : Int))))).getD 1 0), (([(sv.getD 0 0), (sv.getD 1 0), (sv.getD 2 0), (sv.getD 3 0), (sv.getD 4 0)].set (((p / (64 : Int))).toNat) (bOr .u64 ([(sv.getD 0 0), (sv.getD 1 0), (sv.getD 2 0), (sv.getD 3 0), (sv.getD 4 0)].getD (((p / (64 : Int))).toNat) (0 : Int)) (bShl .u64 (1 : Int) (p % (64 : Int))))).getD 2 0), (([(sv.getD 0 0), (sv.getD 1 0), (sv.getD 2 0), (sv.getD 3 0), (sv.getD 4 0)].set (((p / (64 : Int))).toNat) (bOr .u64 ([(sv.getD 0 0), (sv.getD 1 0), (sv.getD 2 0), (sv.getD 3 0), (sv.getD 4 0)].getD (((p / (64 : Int))).toNat) (0 : Int)) (bShl .u64 (1 : Int) (p % (64 : Int))))).getD 3 0), (([(sv.getD 0 0), (sv.getD 1 0), (sv.getD 2 0), (sv.getD 3 0), (sv.getD 4 0)].set (((p / (64 : Int))).toNat) (bOr .u64 ([(sv.getD 0 0), (sv.getD 1 0), (sv.getD 2 0), (sv.getD 3 0), (sv.getD 4 0)].getD (((p / (64 : Int))).toNat) (0 : Int)) (bShl .u64 (1 : Int) (p % (64 : Int))))).getD 4 0)].getD 2 0), ([(([(sv.getD 0 0), (sv.getD 1 0), (sv.getD 2 0), (sv.getD 3 0), (sv.getD 4 0)].set (((p / (64 : Int))).toNat) (bOr .u64 ([(sv.getD 0 0), (sv.getD 1 0), (sv.getD 2 0), (sv.getD 3 0), (sv.getD 4 0)].getD (((p / (64 : Int))).toNat) (0 : Int)) (bShl .u64 (1 : Int) (p % (64 : Int))))).getD 0 0), (([(sv.getD 0 0), (sv.getD 1 0), (sv.getD 2 0), (sv.getD 3 0), (sv.getD 4 0)].set (((p / (64 : Int))).toNat) (bOr .u64 ([(sv.getD 0 0), (sv.getD 1 0), (sv.getD 2 0), (sv.getD 3 0), (sv.getD 4 0)].getD (((p / (64 : Int))).toNat) (0 : Int)) (bShl .u64 (1 : Int) (p % (64 : Int))))).getD 1 0), (([(sv.getD 0 0), (sv.getD 1 0), (sv.getD 2 0), (sv.getD 3 0), (sv.getD 4 0)].set (((p / (64 : Int))).toNat) (bOr .u64 ([(sv.getD 0 0), (sv.getD 1 0), (sv.getD 2 0), (sv.getD 3 0), (sv.getD 4 0)].getD (((p / (64 : Int))).toNat) (0 : Int)) (bShl .u64 (1 : Int) (p % (64 : Int))))).getD 2 0), (([(sv.getD 0 0), (sv.getD 1 0), (sv.getD 2 0), (sv.getD 3 0), (sv.getD 4 0)].set (((p / (64 : Int))).toNat) (bOr .u64 ([(sv.getD 0 0), (sv.getD 1 0), (sv.getD 2 0), (sv.getD 3 0), (sv.getD 4 0)].getD (((p / (64 : Int))).toNat) (0 : Int)) (bShl .u64 (1 : Int) (p % (64 : Int))))).getD 3 0), (([(sv.getD 0 0), (sv.getD 1 0), (sv.getD 2 0), (sv.getD 3 0), (sv.getD 4 0)].set (((p / (64 : Int))).toNat) (bOr .u64 ([(sv.getD 0 0), (sv.getD 1 0), (sv.getD 2 0), (sv.getD 3 0), (sv.getD 4 0)].getD (((p / (64 : Int))).toNat) (0 : Int)) (bShl .u64 (1 : Int) (p % (64 : Int))))).getD 4 0)].getD 3 0), ([(([(sv.getD 0 0), (sv.getD 1 0), (sv.getD 2 0), (sv.getD 3 0), (sv.getD 4 0)].set (((p / (64 : Int))).toNat) (bOr .u64 ([(sv.getD 0 0), (sv.getD 1 0), (sv.getD 2 0), (sv.getD 3 0), (sv.getD 4 0)].getD (((p / (64 : Int))).toNat) (0 : Int)) (bShl .u64 (1 : Int) (p % (64 : Int))))).getD 0 0), (([(sv.getD 0 0), (sv.getD 1 0), (sv.getD 2 0), (sv.getD 3 0), (sv.getD 4 0)].set (((p / (64 : Int))).toNat) (bOr .u64 ([(sv.getD 0 0), (sv.getD 1 0), (sv.getD 2 0), (sv.getD 3 0), (sv.getD 4 0)].getD (((p / (64 : Int))).toNat) (0 : Int)) (bShl .u64 (1 : Int) (p % (64 : Int))))).getD 1 0), (([(sv.getD 0 0), (sv.getD 1 0), (sv.getD 2 0), (sv.getD 3 0), (sv.getD 4 0)].set (((p / (64 : Int))).toNat) (bOr .u64 ([(sv.getD 0 0), (sv.getD 1 0), (sv.getD 2 0), (sv.getD 3 0), (sv.getD 4 0)].getD (((p / (64 : Int))).toNat) (0 : Int)) (bShl .u64 (1 : Int) (p % (64 : Int))))).getD 2 0), (([(sv.getD 0 0), (sv.getD 1 0), (sv.getD 2 0), (sv.getD 3 0), (sv.getD 4 0)].set (((p / (64 : Int))).toNat) (bOr .u64 ([(sv.getD 0 0), (sv.getD 1 0), (sv.getD 2 0), (sv.getD 3 0), (sv.getD 4 0)].getD (((p / (64 : Int))).toNat) (0 : Int)) (bShl .u64 (1 : Int) (p % (64 : Int))))).getD 3 0), (([(sv.getD 0 0), (sv.getD 1 0), (sv.getD 2 0), (sv.getD 3 0), (sv.getD 4 0)].set (((p / (64 : Int))).toNat) (bOr .u64 ([(sv.getD 0 0), (sv.getD 1 0), (sv.getD 2 0), (sv.getD 3 0), (sv.getD 4 0)].getD (((p / (64 : Int))).toNat) (0 : Int)) (bShl .u64 (1 : Int) (p % (64 : Int))))).getD 4 0)].getD 4 0)]))

set_option maxHeartbeats 4000000 in
theorem link88 (sv : LI) (p : Int) (K : LI → Prop) (h : VC88 sv p K) : ACalls Try.prog 88 [toV1 (.ar 4 (.int .u64)) sv, toV1 (.int .i64) p] (fun res => ∃ y, res = (fun y => [toV1 (.ar 4 (.int .u64)) y]) y ∧ K y) := by
  refine acalls_of_aw [(.ar 4 (.int .u64))] [.c 4 114] Try.func88 rfl rfl rfl ?_
  unfold VC88 at h
  refine aw_seq ?_
  refine aw_region ?_
  refine awl_runp 2 [1, 2, 4] [2, 4] (ob := (True ∧ True ∧ True)) (st' := (⟨15, [(1, [], .v (.c (.pI p))), (2, [], .v (.c (.ptr 2 0))), (4, [], .v (.c (.ptr 4 0)))], [(2, [], .vec 5 (.int .u64) [(sv.getD 0 0), (sv.getD 1 0), (sv.getD 2 0), (sv.getD 3 0), (sv.getD 4 0)]), (4, [], .vec 5 (.int .u64) (List.replicate 5 (0 : Int)))]⟩ : St)) (by kernel_rfl) ⟨trivial, trivial, trivial⟩ ?_
  refine awl_nil ?_
  refine thenQ_n ?_
  refine aw_seq ?_
  refine awd_begin [2] (by kernel_rfl) ?_
  obtain ⟨o1, o2, o3, o4, h⟩ := h
  refine awd_runp (by kernel_rfl) [0, 1, 2, 4, 5, 6] [2, 4, 6, 7, 11] [2, 4] (ob := (True ∧ (0 ≤ p ∧ 0 < (64 : Int)) ∧ inIdx (p / (64 : Int)) 5 ∧ True ∧ (0 ≤ p ∧ 0 < (64 : Int)) ∧ 0 ≤ (p % (64 : Int)) ∧ True)) (done' := [6, 5, 4, 2, 1, 0]) (st' := (⟨15, [(2, [], .v (.c (.ptr 2 0))), (4, [], .v (.c (.ptr 4 0))), (6, [], .v (.c (.pI (p / (64 : Int))))), (7, [], .v (.c (.elv 2 (((p / (64 : Int))).toNat) 1 0 5))), (11, [], .v (.c (.pU (bShl .u64 (1 : Int) (p % (64 : Int))))))], [(2, [], .vec 5 (.int .u64) [(sv.getD 0 0), (sv.getD 1 0), (sv.getD 2 0), (sv.getD 3 0), (sv.getD 4 0)]), (4, [], .vec 5 (.int .u64) (List.replicate 5 (0 : Int)))]⟩ : St)) (by kernel_rfl) ⟨trivial, o1, o2, trivial, o3, o4, trivial⟩ ?_
  refine awd_one (i := 3) (by kernel_rfl) ?_
  refine adop_stepp [2, 4, 6, 8, 11] [2, 4] (ob := True) (st' := (⟨15, [(2, [], .v (.c (.ptr 2 0))), (4, [], .v (.c (.ptr 4 0))), (6, [], .v (.c (.pI (p / (64 : Int))))), (8, [], .v (.c (.pU ([(sv.getD 0 0), (sv.getD 1 0), (sv.getD 2 0), (sv.getD 3 0), (sv.getD 4 0)].getD (((p / (64 : Int))).toNat) (0 : Int))))), (11, [], .v (.c (.pU (bShl .u64 (1 : Int) (p % (64 : Int))))))], [(2, [], .vec 5 (.int .u64) [(sv.getD 0 0), (sv.getD 1 0), (sv.getD 2 0), (sv.getD 3 0), (sv.getD 4 0)]), (4, [], .vec 5 (.int .u64) (List.replicate 5 (0 : Int)))]⟩ : St)) rfl (by kernel_rfl) trivial ?_
  obtain ⟨o1, h⟩ := h
  refine awd_runp (by kernel_rfl) [7, 8] [2, 4, 12, 13] [2, 4] (ob := (True ∧ inIdx (p / (64 : Int)) 5 ∧ True)) (done' := [8, 7, 3, 6, 5, 4, 2, 1, 0]) (st' := (⟨15, [(2, [], .v (.c (.ptr 2 0))), (4, [], .v (.c (.ptr 4 0))), (12, [], .v (.c (.pU (bOr .u64 ([(sv.getD 0 0), (sv.getD 1 0), (sv.getD 2 0), (sv.getD 3 0), (sv.getD 4 0)].getD (((p / (64 : Int))).toNat) (0 : Int)) (bShl .u64 (1 : Int) (p % (64 : Int))))))), (13, [], .v (.c (.elv 2 (((p / (64 : Int))).toNat) 1 0 5)))], [(2, [], .vec 5 (.int .u64) [(sv.getD 0 0), (sv.getD 1 0), (sv.getD 2 0), (sv.getD 3 0), (sv.getD 4 0)]), (4, [], .vec 5 (.int .u64) (List.replicate 5 (0 : Int)))]⟩ : St)) (by kernel_rfl) ⟨trivial, o1, trivial⟩ ?_
  refine awd_one (i := 9) (by kernel_rfl) ?_
  refine adop_stepp [2, 4] [2, 4] (ob := True) (st' := (⟨15, [(2, [], .v (.c (.ptr 2 0))), (4, [], .v (.c (.ptr 4 0)))], [(2, [], .vec 5 (.int .u64) ([(sv.getD 0 0), (sv.getD 1 0), (sv.getD 2 0), (sv.getD 3 0), (sv.getD 4 0)].set (((p / (64 : Int))).toNat) (bOr .u64 ([(sv.getD 0 0), (sv.getD 1 0), (sv.getD 2 0), (sv.getD 3 0), (sv.getD 4 0)].getD (((p / (64 : Int))).toNat) (0 : Int)) (bShl .u64 (1 : Int) (p % (64 : Int)))))), (4, [], .vec 5 (.int .u64) (List.replicate 5 (0 : Int)))]⟩ : St)) rfl (by kernel_rfl) trivial ?_
  refine awd_done (by kernel_rfl) ?_
  refine thenQ_n ?_
  refine aw_seq ?_
  refine aw_region ?_
  refine awl_runp 2 [4] [4] (ob := (True ∧ True ∧ True)) (st' := (⟨15, [(4, [], .v (.c (.ptr 4 0)))], [(4, [], .vec 5 (.int .u64) [(([(sv.getD 0 0), (sv.getD 1 0), (sv.getD 2 0), (sv.getD 3 0), (sv.getD 4 0)].set (((p / (64 : Int))).toNat) (bOr .u64 ([(sv.getD 0 0), (sv.getD 1 0), (sv.getD 2 0), (sv.getD 3 0), (sv.getD 4 0)].getD (((p / (64 : Int))).toNat) (0 : Int)) (bShl .u64 (1 : Int) (p % (64 : Int))))).getD 0 0), (([(sv.getD 0 0), (sv.getD 1 0), (sv.getD 2 0), (sv.getD 3 0), (sv.getD 4 0)].set (((p / (64 : Int))).toNat) (bOr .u64 ([(sv.getD 0 0), (sv.getD 1 0), (sv.getD 2 0), (sv.getD 3 0), (sv.getD 4 0)].getD (((p / (64 : Int))).toNat) (0 : Int)) (bShl .u64 (1 : Int) (p % (64 : Int))))).getD 1 0), (([(sv.getD 0 0), (sv.getD 1 0), (sv.getD 2 0), (sv.getD 3 0), (sv.getD 4 0)].set (((p / (64 : Int))).toNat) (bOr .u64 ([(sv.getD 0 0), (sv.getD 1 0), (sv.getD 2 0), (sv.getD 3 0), (sv.getD 4 0)].getD (((p / (64 : Int))).toNat) (0 : Int)) (bShl .u64 (1 : Int) (p % (64 : Int))))).getD 2 0), (([(sv.getD 0 0), (sv.getD 1 0), (sv.getD 2 0), (sv.getD 3 0), (sv.getD 4 0)].set (((p / (64 : Int))).toNat) (bOr .u64 ([(sv.getD 0 0), (sv.getD 1 0), (sv.getD 2 0), (sv.getD 3 0), (sv.getD 4 0)].getD (((p / (64 : Int))).toNat) (0 : Int)) (bShl .u64 (1 : Int) (p % (64 : Int))))).getD 3 0), (([(sv.getD 0 0), (sv.getD 1 0), (sv.getD 2 0), (sv.getD 3 0), (sv.getD 4 0)].set (((p / (64 : Int))).toNat) (bOr .u64 ([(sv.getD 0 0), (sv.getD 1 0), (sv.getD 2 0), (sv.getD 3 0), (sv.getD 4 0)].getD (((p / (64 : Int))).toNat) (0 : Int)) (bShl .u64 (1 : Int) (p % (64 : Int))))).getD 4 0)])]⟩ : St)) (by kernel_rfl) ⟨trivial, trivial, trivial⟩ ?_
  refine awl_nil ?_
  refine thenQ_n ?_
  refine aw_ret ?_
  exact retQ_r (σ := LI) (R := (fun y => [toV1 (.ar 4 (.int .u64)) y])) (ob := (True ∧ True)) [([(([(sv.getD 0 0), (sv.getD 1 0), (sv.getD 2 0), (sv.getD 3 0), (sv.getD 4 0)].set (((p / (64 : Int))).toNat) (bOr .u64 ([(sv.getD 0 0), (sv.getD 1 0), (sv.getD 2 0), (sv.getD 3 0), (sv.getD 4 0)].getD (((p / (64 : Int))).toNat) (0 : Int)) (bShl .u64 (1 : Int) (p % (64 : Int))))).getD 0 0), (([(sv.getD 0 0), (sv.getD 1 0), (sv.getD 2 0), (sv.getD 3 0), (sv.getD 4 0)].set (((p / (64 : Int))).toNat) (bOr .u64 ([(sv.getD 0 0), (sv.getD 1 0), (sv.getD 2 0), (sv.getD 3 0), (sv.getD 4 0)].getD (((p / (64 : Int))).toNat) (0 : Int)) (bShl .u64 (1 : Int) (p % (64 : Int))))).getD 1 0), (([(sv.getD 0 0), (sv.getD 1 0), (sv.getD 2 0), (sv.getD 3 0), (sv.getD 4 0)].set (((p / (64 : Int))).toNat) (bOr .u64 ([(sv.getD 0 0), (sv.getD 1 0), (sv.getD 2 0), (sv.getD 3 0), (sv.getD 4 0)].getD (((p / (64 : Int))).toNat) (0 : Int)) (bShl .u64 (1 : Int) (p % (64 : Int))))).getD 2 0), (([(sv.getD 0 0), (sv.getD 1 0), (sv.getD 2 0), (sv.getD 3 0), (sv.getD 4 0)].set (((p / (64 : Int))).toNat) (bOr .u64 ([(sv.getD 0 0), (sv.getD 1 0), (sv.getD 2 0), (sv.getD 3 0), (sv.getD 4 0)].getD (((p / (64 : Int))).toNat) (0 : Int)) (bShl .u64 (1 : Int) (p % (64 : Int))))).getD 3 0), (([(sv.getD 0 0), (sv.getD 1 0), (sv.getD 2 0), (sv.getD 3 0), (sv.getD 4 0)].set (((p / (64 : Int))).toNat) (bOr .u64 ([(sv.getD 0 0), (sv.getD 1 0), (sv.getD 2 0), (sv.getD 3 0), (sv.getD 4 0)].getD (((p / (64 : Int))).toNat) (0 : Int)) (bShl .u64 (1 : Int) (p % (64 : Int))))).getD 4 0)].getD 0 0), ([(([(sv.getD 0 0), (sv.getD 1 0), (sv.getD 2 0), (sv.getD 3 0), (sv.getD 4 0)].set (((p / (64 : Int))).toNat) (bOr .u64 ([(sv.getD 0 0), (sv.getD 1 0), (sv.getD 2 0), (sv.getD 3 0), (sv.getD 4 0)].getD (((p / (64 : Int))).toNat) (0 : Int)) (bShl .u64 (1 : Int) (p % (64 : Int))))).getD 0 0), (([(sv.getD 0 0), (sv.getD 1 0), (sv.getD 2 0), (sv.getD 3 0), (sv.getD 4 0)].set (((p / (64 : Int))).toNat) (bOr .u64 ([(sv.getD 0 0), (sv.getD 1 0), (sv.getD 2 0), (sv.getD 3 0), (sv.getD 4 0)].getD (((p / (64 : Int))).toNat) (0 : Int)) (bShl .u64 (1 : Int) (p % (64 : Int))))).getD 1 0), (([(sv.getD 0 0), (sv.getD 1 0), (sv.getD 2 0), (sv.getD 3 0), (sv.getD 4 0)].set (((p / (64 : Int))).toNat) (bOr .u64 ([(sv.getD 0 0), (sv.getD 1 0), (sv.getD 2 0), (sv.getD 3 0), (sv.getD 4 0)].getD (((p / (64 : Int))).toNat) (0 : Int)) (bShl .u64 (1 : Int) (p % (64 : Int))))).getD 2 0), (([(sv.getD 0 0), (sv.getD 1 0), (sv.getD 2 0), (sv.getD 3 0), (sv.getD 4 0)].set (((p / (64 : Int))).toNat) (bOr .u64 ([(sv.getD 0 0), (sv.getD 1 0), (sv.getD 2 0), (sv.getD 3 0), (sv.getD 4 0)].getD (((p / (64 : Int))).toNat) (0 : Int)) (bShl .u64 (1 : Int) (p % (64 : Int))))).getD 3 0), (([(sv.getD 0 0), (sv.getD 1 0), (sv.getD 2 0), (sv.getD 3 0), (sv.getD 4 0)].set (((p / (64 : Int))).toNat) (bOr .u64 ([(sv.getD 0 0), (sv.getD 1 0), (sv.getD 2 0), (sv.getD 3 0), (sv.getD 4 0)].getD (((p / (64 : Int))).toNat) (0 : Int)) (bShl .u64 (1 : Int) (p % (64 : Int))))).getD 4 0)].getD 1 0), ([(([(sv.getD 0 0), (sv.getD 1 0), (sv.getD 2 0), (sv.getD 3 0), (sv.getD 4 0)].set (((p / (64 : Int))).toNat) (bOr .u64 ([(sv.getD 0 0), (sv.getD 1 0), (sv.getD 2 0), (sv.getD 3 0), (sv.getD 4 0)].getD (((p / (64 : Int))).toNat) (0 : Int)) (bShl .u64 (1 : Int) (p % (64 : Int))))).getD 0 0), (([(sv.getD 0 0), (sv.getD 1 0), (sv.getD 2 0), (sv.getD 3 0), (sv.getD 4 0)].set (((p / (64 : Int))).toNat) (bOr .u64 ([(sv.getD 0 0), (sv.getD 1 0), (sv.getD 2 0), (sv.getD 3 0), (sv.getD 4 0)].getD (((p / (64 : Int))).toNat) (0 : Int)) (bShl .u64 (1 : Int) (p % (64 : Int))))).getD 1 0), (([(sv.getD 0 0), (sv.getD 1 0), (sv.getD 2 0), (sv.getD 3 0), (sv.getD 4 0)].set (((p / (64 : Int))).toNat) (bOr .u64 ([(sv.getD 0 0), (sv.getD 1 0), (sv.getD 2 0), (sv.getD 3 0), (sv.getD 4 0)].getD (((p / (64 : Int))).toNat) (0 : Int)) (bShl .u64 (1 : Int) (p % (64 : Int))))).getD 2 0), (([(sv.getD 0 0), (sv.getD 1 0), (sv.getD 2 0), (sv.getD 3 0), (sv.getD 4 0)].set (((p / (64 : Int))).toNat) (bOr .u64 ([(sv.getD 0 0), (sv.getD 1 0), (sv.getD 2 0), (sv.getD 3 0), (sv.getD 4 0)].getD (((p / (64 : Int))).toNat) (0 : Int)) (bShl .u64 (1 : Int) (p % (64 : Int))))).getD 3 0), (([(sv.getD 0 0), (sv.getD 1 0), (sv.getD 2 0), (sv.getD 3 0), (sv.getD 4 0)].set (((p / (64 : Int))).toNat) (bOr .u64 ([(sv.getD 0 0), (sv.getD 1 0), (sv.getD 2 0), (sv.getD 3 0), (sv.getD 4 0)].getD (((p / (64 : Int))).toNat) (0 : Int)) (bShl .u64 (1 : Int) (p % (64 : Int))))).getD 4 0)].getD 2 0), ([(([(sv.getD 0 0), (sv.getD 1 0), (sv.getD 2 0), (sv.getD 3 0), (sv.getD 4 0)].set (((p / (64 : Int))).toNat) (bOr .u64 ([(sv.getD 0 0), (sv.getD 1 0), (sv.getD 2 0), (sv.getD 3 0), (sv.getD 4 0)].getD (((p / (64 : Int))).toNat) (0 : Int)) (bShl .u64 (1 : Int) (p % (64 : Int))))).getD 0 0), (([(sv.getD 0 0), (sv.getD 1 0), (sv.getD 2 0), (sv.getD 3 0), (sv.getD 4 0)].set (((p / (64 : Int))).toNat) (bOr .u64 ([(sv.getD 0 0), (sv.getD 1 0), (sv.getD 2 0), (sv.getD 3 0), (sv.getD 4 0)].getD (((p / (64 : Int))).toNat) (0 : Int)) (bShl .u64 (1 : Int) (p % (64 : Int))))).getD 1 0), (([(sv.getD 0 0), (sv.getD 1 0), (sv.getD 2 0), (sv.getD 3 0), (sv.getD 4 0)].set (((p / (64 : Int))).toNat) (bOr .u64 ([(sv.getD 0 0), (sv.getD 1 0), (sv.getD 2 0), (sv.getD 3 0), (sv.getD 4 0)].getD (((p / (64 : Int))).toNat) (0 : Int)) (bShl .u64 (1 : Int) (p % (64 : Int))))).getD 2 0), (([(sv.getD 0 0), (sv.getD 1 0), (sv.getD 2 0), (sv.getD 3 0), (sv.getD 4 0)].set (((p / (64 : Int))).toNat) (bOr .u64 ([(sv.getD 0 0), (sv.getD 1 0), (sv.getD 2 0), (sv.getD 3 0), (sv.getD 4 0)].getD (((p / (64 : Int))).toNat) (0 : Int)) (bShl .u64 (1 : Int) (p % (64 : Int))))).getD 3 0), (([(sv.getD 0 0), (sv.getD 1 0), (sv.getD 2 0), (sv.getD 3 0), (sv.getD 4 0)].set (((p / (64 : Int))).toNat) (bOr .u64 ([(sv.getD 0 0), (sv.getD 1 0), (sv.getD 2 0), (sv.getD 3 0), (sv.getD 4 0)].getD (((p / (64 : Int))).toNat) (0 : Int)) (bShl .u64 (1 : Int) (p % (64 : Int))))).getD 4 0)].getD 3 0), ([(([(sv.getD 0 0), (sv.getD 1 0), (sv.getD 2 0), (sv.getD 3 0), (sv.getD 4 0)].set (((p / (64 : Int))).toNat) (bOr .u64 ([(sv.getD 0 0), (sv.getD 1 0), (sv.getD 2 0), (sv.getD 3 0), (sv.getD 4 0)].getD (((p / (64 : Int))).toNat) (0 : Int)) (bShl .u64 (1 : Int) (p % (64 : Int))))).getD 0 0), (([(sv.getD 0 0), (sv.getD 1 0), (sv.getD 2 0), (sv.getD 3 0), (sv.getD 4 0)].set (((p / (64 : Int))).toNat) (bOr .u64 ([(sv.getD 0 0), (sv.getD 1 0), (sv.getD 2 0), (sv.getD 3 0), (sv.getD 4 0)].getD (((p / (64 : Int))).toNat) (0 : Int)) (bShl .u64 (1 : Int) (p % (64 : Int))))).getD 1 0), (([(sv.getD 0 0), (sv.getD 1 0), (sv.getD 2 0), (sv.getD 3 0), (sv.getD 4 0)].set (((p / (64 : Int))).toNat) (bOr .u64 ([(sv.getD 0 0), (sv.getD 1 0), (sv.getD 2 0), (sv.getD 3 0), (sv.getD 4 0)].getD (((p / (64 : Int))).toNat) (0 : Int)) (bShl .u64 (1 : Int) (p % (64 : Int))))).getD 2 0), (([(sv.getD 0 0), (sv.getD 1 0), (sv.getD 2 0), (sv.getD 3 0), (sv.getD 4 0)].set (((p / (64 : Int))).toNat) (bOr .u64 ([(sv.getD 0 0), (sv.getD 1 0), (sv.getD 2 0), (sv.getD 3 0), (sv.getD 4 0)].getD (((p / (64 : Int))).toNat) (0 : Int)) (bShl .u64 (1 : Int) (p % (64 : Int))))).getD 3 0), (([(sv.getD 0 0), (sv.getD 1 0), (sv.getD 2 0), (sv.getD 3 0), (sv.getD 4 0)].set (((p / (64 : Int))).toNat) (bOr .u64 ([(sv.getD 0 0), (sv.getD 1 0), (sv.getD 2 0), (sv.getD 3 0), (sv.getD 4 0)].getD (((p / (64 : Int))).toNat) (0 : Int)) (bShl .u64 (1 : Int) (p % (64 : Int))))).getD 4 0)].getD 4 0)] (by kernel_rfl) ⟨trivial, trivial⟩ h

-- (coppicer/glyph.Set).Has
def VC61 (sv : LI) (p : Int) (K : Bool → Prop) : Prop :=
  ((0 ≤ p ∧ 0 < (64 : Int)) ∧ inIdx (p / (64 : Int)) 5 ∧ (0 ≤ p ∧ 0 < (64 : Int)) ∧ (0 ≤ ([(sv.getD 0 0), (sv.getD 1 0), (sv.getD 2 0), (sv.getD 3 0), (sv.getD 4 0)].getD (((p / (64 : Int))).toNat) (0 : Int)) ∧ 0 ≤ (p % (64 : Int))) ∧ K (decide ((bAnd .u64 (bShr .u64 ([(sv.getD 0 0), (sv.getD 1 0), (sv.getD 2 0), (sv.getD 3 0), (sv.getD 4 0)].getD (((p / (64 : Int))).toNat) (0 : Int)) (p % (64 : Int))) (1 : Int)) = (1 : Int))))

set_option maxHeartbeats 4000000 in
theorem link61 (sv : LI) (p : Int) (K : Bool → Prop) (h : VC61 sv p K) : ACalls Try.prog 61 [toV1 (.ar 4 (.int .u64)) sv, toV1 (.int .i64) p] (fun res => ∃ y, res = (fun y => [toV1 .bool y]) y ∧ K y) := by
  refine acalls_of_aw [.bool] [.t 4] Try.func61 rfl rfl rfl ?_
  unfold VC61 at h
  refine aw_seq ?_
  refine aw_region ?_
  refine awl_runp 2 [1, 2] [2] (ob := (True ∧ True ∧ True)) (st' := (⟨14, [(1, [], .v (.c (.pI p))), (2, [], .v (.c (.ptr 2 0)))], [(2, [], .vec 5 (.int .u64) [(sv.getD 0 0), (sv.getD 1 0), (sv.getD 2 0), (sv.getD 3 0), (sv.getD 4 0)])]⟩ : St)) (by kernel_rfl) ⟨trivial, trivial, trivial⟩ ?_
  refine awl_nil ?_
  refine thenQ_n ?_
  refine aw_seq ?_
  refine aw_region ?_
  obtain ⟨o1, o2, o3, o4, h⟩ := h
  refine awl_runp 10 [4] [] (ob := (True ∧ (0 ≤ p ∧ 0 < (64 : Int)) ∧ inIdx (p / (64 : Int)) 5 ∧ True ∧ True ∧ (0 ≤ p ∧ 0 < (64 : Int)) ∧ (0 ≤ ([(sv.getD 0 0), (sv.getD 1 0), (sv.getD 2 0), (sv.getD 3 0), (sv.getD 4 0)].getD (((p / (64 : Int))).toNat) (0 : Int)) ∧ 0 ≤ (p % (64 : Int))) ∧ True ∧ True ∧ True ∧ True)) (st' := (⟨14, [(4, [], .v (.c (.pB (decide ((bAnd .u64 (bShr .u64 ([(sv.getD 0 0), (sv.getD 1 0), (sv.getD 2 0), (sv.getD 3 0), (sv.getD 4 0)].getD (((p / (64 : Int))).toNat) (0 : Int)) (p % (64 : Int))) (1 : Int)) = (1 : Int))))))], []⟩ : St)) (by kernel_rfl) ⟨trivial, o1, o2, trivial, trivial, o3, o4, trivial, trivial, trivial, trivial⟩ ?_
  refine awl_nil ?_
  refine thenQ_n ?_
  refine aw_ret ?_
  exact retQ_r (σ := Bool) (R := (fun y => [toV1 .bool y])) (ob := (True ∧ True)) (decide ((bAnd .u64 (bShr .u64 ([(sv.getD 0 0), (sv.getD 1 0), (sv.getD 2 0), (sv.getD 3 0), (sv.getD 4 0)].getD (((p / (64 : Int))).toNat) (0 : Int)) (p % (64 : Int))) (1 : Int)) = (1 : Int))) (by kernel_rfl) ⟨trivial, trivial⟩ h

-- (coppicer/glyph.Set).Or
def VC102_k1 (K : LI → Prop) (sv2 : LI) : Prop :=
  K [([(sv2.getD 0 0), (sv2.getD 1 0), (sv2.getD 2 0), (sv2.getD 3 0), (sv2.getD 4 0)].getD 0 0), ([(sv2.getD 0 0), (sv2.getD 1 0), (sv2.getD 2 0), (sv2.getD 3 0), (sv2.getD 4 0)].getD 1 0), ([(sv2.getD 0 0), (sv2.getD 1 0), (sv2.getD 2 0), (sv2.getD 3 0), (sv2.getD 4 0)].getD 2 0), ([(sv2.getD 0 0), (sv2.getD 1 0), (sv2.getD 2 0), (sv2.getD 3 0), (sv2.getD 4 0)].getD 3 0), ([(sv2.getD 0 0), (sv2.getD 1 0), (sv2.getD 2 0), (sv2.getD 3 0), (sv2.getD 4 0)].getD 4 0)]

def VC102_l1 (tv : LI) (K : LI → Prop) (v6 : Int) (sv2 : LI) (X1 : Int × LI → Prop) : Prop :=
  (((decide (v6 < (5 : Int))) = true → (inIdx v6 5 ∧ inIdx v6 5 ∧ (inIdx v6 5 ∧ (InR (v6 + (1 : Int)) ∧ X1 ((v6 + (1 : Int)), (sv2.set ((v6).toNat) (bOr .u64 (sv2.getD ((v6).toNat) (0 : Int)) ([(tv.getD 0 0), (tv.getD 1 0), (tv.getD 2 0), (tv.getD 3 0), (tv.getD 4 0)].getD ((v6).toNat) (0 : Int))))))))) ∧ ((decide (v6 < (5 : Int))) = false → VC102_k1 K sv2))

def VC102 (sv : LI) (tv : LI) (K : LI → Prop) : Prop :=
  Loop (σ := Int × LI) (fun s X => VC102_l1 tv K s.1 s.2 X) ((0 : Int), [(sv.getD 0 0), (sv.getD 1 0), (sv.getD 2 0), (sv.getD 3 0), (sv.getD 4 0)])

set_option maxHeartbeats 4000000 in
theorem link102 (sv : LI) (tv : LI) (K : LI → Prop) (h : VC102 sv tv K) : ACalls Try.prog 102 [toV1 (.ar 4 (.int .u64)) sv, toV1 (.ar 4 (.int .u64)) tv] (fun res => ∃ y, res = (fun y => [toV1 (.ar 4 (.int .u64)) y]) y ∧ K y) := by
  refine acalls_of_aw [(.ar 4 (.int .u64))] [.c 4 114] Try.func102 rfl rfl rfl ?_
  unfold VC102 at h
  refine aw_seq ?_
  refine aw_region ?_
  refine awl_runp 3 [2, 3, 4] [2, 3, 4] (ob := (True ∧ True ∧ True ∧ True)) (st' := (⟨19, [(2, [], .v (.c (.ptr 2 0))), (3, [], .v (.c (.ptr 3 0))), (4, [], .v (.c (.ptr 4 0)))], [(2, [], .vec 5 (.int .u64) [(sv.getD 0 0), (sv.getD 1 0), (sv.getD 2 0), (sv.getD 3 0), (sv.getD 4 0)]), (3, [], .vec 5 (.int .u64) [(tv.getD 0 0), (tv.getD 1 0), (tv.getD 2 0), (tv.getD 3 0), (tv.getD 4 0)]), (4, [], .vec 5 (.int .u64) (List.replicate 5 (0 : Int)))]⟩ : St)) (by kernel_rfl) ⟨trivial, trivial, trivial, trivial⟩ ?_
  refine awl_nil ?_
  refine thenQ_n ?_
  refine aw_seq ?_
  refine aw_seq ?_
  refine aw_region ?_
  refine awl_runp 1 [2, 3, 4, 6] [2, 3, 4] (ob := (True ∧ True)) (st' := (⟨19, [(2, [], .v (.c (.ptr 2 0))), (3, [], .v (.c (.ptr 3 0))), (4, [], .v (.c (.ptr 4 0))), (6, [], .v (.c (.pI (0 : Int))))], [(2, [], .vec 5 (.int .u64) [(sv.getD 0 0), (sv.getD 1 0), (sv.getD 2 0), (sv.getD 3 0), (sv.getD 4 0)]), (3, [], .vec 5 (.int .u64) [(tv.getD 0 0), (tv.getD 1 0), (tv.getD 2 0), (tv.getD 3 0), (tv.getD 4 0)]), (4, [], .vec 5 (.int .u64) (List.replicate 5 (0 : Int)))]⟩ : St)) (by kernel_rfl) ⟨trivial, trivial⟩ ?_
  refine awl_nil ?_
  refine thenQ_n ?_
  refine withJoin (σ := LI) (fun s => (⟨19, [(2, [], .v (.c (.ptr 2 0))), (4, [], .v (.c (.ptr 4 0)))], [(2, [], .vec 5 (.int .u64) s), (4, [], .vec 5 (.int .u64) (List.replicate 5 (0 : Int)))]⟩ : St)) (fun s => VC102_k1 K s) (fun sv2 h => ?_) (fun rest1 => ?_)
  · have h : VC102_k1 K sv2 := h
    unfold VC102_k1 at h
    refine thenQ_n ?_
    refine aw_seq ?_
    refine aw_region ?_
    refine awl_runp 2 [4] [4] (ob := (True ∧ True ∧ True)) (st' := (⟨19, [(4, [], .v (.c (.ptr 4 0)))], [(4, [], .vec 5 (.int .u64) [(sv2.getD 0 0), (sv2.getD 1 0), (sv2.getD 2 0), (sv2.getD 3 0), (sv2.getD 4 0)])]⟩ : St)) (by kernel_rfl) ⟨trivial, trivial, trivial⟩ ?_
    refine awl_nil ?_
    refine thenQ_n ?_
    refine aw_ret ?_
    exact retQ_r (σ := LI) (R := (fun y => [toV1 (.ar 4 (.int .u64)) y])) (ob := (True ∧ True)) [([(sv2.getD 0 0), (sv2.getD 1 0), (sv2.getD 2 0), (sv2.getD 3 0), (sv2.getD 4 0)].getD 0 0), ([(sv2.getD 0 0), (sv2.getD 1 0), (sv2.getD 2 0), (sv2.getD 3 0), (sv2.getD 4 0)].getD 1 0), ([(sv2.getD 0 0), (sv2.getD 1 0), (sv2.getD 2 0), (sv2.getD 3 0), (sv2.getD 4 0)].getD 2 0), ([(sv2.getD 0 0), (sv2.getD 1 0), (sv2.getD 2 0), (sv2.getD 3 0), (sv2.getD 4 0)].getD 3 0), ([(sv2.getD 0 0), (sv2.getD 1 0), (sv2.getD 2 0), (sv2.getD 3 0), (sv2.getD 4 0)].getD 4 0)] (by kernel_rfl) ⟨trivial, trivial⟩ h
  · refine aw_block ?_
    refine aw_loop (σ := Int × LI) (fun s => (⟨19, [(2, [], .v (.c (.ptr 2 0))), (3, [], .v (.c (.ptr 3 0))), (4, [], .v (.c (.ptr 4 0))), (6, [], .v (.c (.pI s.1)))], [(2, [], .vec 5 (.int .u64) s.2), (3, [], .vec 5 (.int .u64) [(tv.getD 0 0), (tv.getD 1 0), (tv.getD 2 0), (tv.getD 3 0), (tv.getD 4 0)]), (4, [], .vec 5 (.int .u64) (List.replicate 5 (0 : Int)))]⟩ : St)) (fun s X => VC102_l1 tv K s.1 s.2 X) (s0 := ((0 : Int), [(sv.getD 0 0), (sv.getD 1 0), (sv.getD 2 0), (sv.getD 3 0), (sv.getD 4 0)])) (fun s X1 h => ?_) h
    obtain ⟨v6, sv2⟩ := s
    have h : VC102_l1 tv K v6 sv2 X1 := h
    unfold VC102_l1 at h
    refine aw_seq ?_
    refine aw_region ?_
    refine awl_runp 1 [2, 3, 4, 6, 7] [2, 3, 4] (ob := (True ∧ True)) (st' := (⟨19, [(2, [], .v (.c (.ptr 2 0))), (3, [], .v (.c (.ptr 3 0))), (4, [], .v (.c (.ptr 4 0))), (6, [], .v (.c (.pI v6))), (7, [], .v (.c (.pB (decide (v6 < (5 : Int))))))], [(2, [], .vec 5 (.int .u64) sv2), (3, [], .vec 5 (.int .u64) [(tv.getD 0 0), (tv.getD 1 0), (tv.getD 2 0), (tv.getD 3 0), (tv.getD 4 0)]), (4, [], .vec 5 (.int .u64) (List.replicate 5 (0 : Int)))]⟩ : St)) (by kernel_rfl) ⟨trivial, trivial⟩ ?_
    refine awl_nil ?_
    refine thenQ_n ?_
    refine aw_seq ?_
    refine aw_cond (b := (decide (v6 < (5 : Int)))) (by kernel_rfl) (fun hb => ?_) (fun hb => ?_)
    · have h := h.1 hb
      refine aw_skip ?_
      refine thenQ_n ?_
      refine aw_seq ?_
      refine aw_block ?_
      refine aw_seq ?_
      refine aw_region ?_
      refine awl_runp 2 [2, 3, 4, 5, 6] [2, 3, 4] (ob := (True ∧ True ∧ True)) (st' := (⟨19, [(2, [], .v (.c (.ptr 2 0))), (3, [], .v (.c (.ptr 3 0))), (4, [], .v (.c (.ptr 4 0))), (5, [], .v (.c (.pI v6))), (6, [], .v (.c (.pI v6)))], [(2, [], .vec 5 (.int .u64) sv2), (3, [], .vec 5 (.int .u64) [(tv.getD 0 0), (tv.getD 1 0), (tv.getD 2 0), (tv.getD 3 0), (tv.getD 4 0)]), (4, [], .vec 5 (.int .u64) (List.replicate 5 (0 : Int)))]⟩ : St)) (by kernel_rfl) ⟨trivial, trivial, trivial⟩ ?_
      refine awl_nil ?_
      refine thenQ_n ?_
      refine awd_begin [2] (by kernel_rfl) ?_
      obtain ⟨o1, o2, h⟩ := h
      refine awd_runp (by kernel_rfl) [0, 1, 3, 4, 5] [2, 3, 4, 6, 9, 10, 14] [2, 3, 4] (ob := (True ∧ inIdx v6 5 ∧ True ∧ inIdx v6 5 ∧ True ∧ True)) (done' := [5, 4, 3, 1, 0]) (st' := (⟨19, [(2, [], .v (.c (.ptr 2 0))), (3, [], .v (.c (.ptr 3 0))), (4, [], .v (.c (.ptr 4 0))), (6, [], .v (.c (.pI v6))), (9, [], .v (.c (.pI v6))), (10, [], .v (.c (.elv 2 ((v6).toNat) 1 0 5))), (14, [], .v (.c (.pU ([(tv.getD 0 0), (tv.getD 1 0), (tv.getD 2 0), (tv.getD 3 0), (tv.getD 4 0)].getD ((v6).toNat) (0 : Int)))))], [(2, [], .vec 5 (.int .u64) sv2), (3, [], .vec 5 (.int .u64) [(tv.getD 0 0), (tv.getD 1 0), (tv.getD 2 0), (tv.getD 3 0), (tv.getD 4 0)]), (4, [], .vec 5 (.int .u64) (List.replicate 5 (0 : Int)))]⟩ : St)) (by kernel_rfl) ⟨trivial, o1, trivial, o2, trivial, trivial⟩ ?_
      refine awd_one (i := 2) (by kernel_rfl) ?_
      refine adop_stepp [2, 3, 4, 6, 9, 11, 14] [2, 3, 4] (ob := True) (st' := (⟨19, [(2, [], .v (.c (.ptr 2 0))), (3, [], .v (.c (.ptr 3 0))), (4, [], .v (.c (.ptr 4 0))), (6, [], .v (.c (.pI v6))), (9, [], .v (.c (.pI v6))), (11, [], .v (.c (.pU (sv2.getD ((v6).toNat) (0 : Int))))), (14, [], .v (.c (.pU ([(tv.getD 0 0), (tv.getD 1 0), (tv.getD 2 0), (tv.getD 3 0), (tv.getD 4 0)].getD ((v6).toNat) (0 : Int)))))], [(2, [], .vec 5 (.int .u64) sv2), (3, [], .vec 5 (.int .u64) [(tv.getD 0 0), (tv.getD 1 0), (tv.getD 2 0), (tv.getD 3 0), (tv.getD 4 0)]), (4, [], .vec 5 (.int .u64) (List.replicate 5 (0 : Int)))]⟩ : St)) rfl (by kernel_rfl) trivial ?_
      obtain ⟨o1, h⟩ := h
      refine awd_runp (by kernel_rfl) [6, 7] [2, 3, 4, 6, 15, 16] [2, 3, 4] (ob := (True ∧ inIdx v6 5 ∧ True)) (done' := [7, 6, 2, 5, 4, 3, 1, 0]) (st' := (⟨19, [(2, [], .v (.c (.ptr 2 0))), (3, [], .v (.c (.ptr 3 0))), (4, [], .v (.c (.ptr 4 0))), (6, [], .v (.c (.pI v6))), (15, [], .v (.c (.pU (bOr .u64 (sv2.getD ((v6).toNat) (0 : Int)) ([(tv.getD 0 0), (tv.getD 1 0), (tv.getD 2 0), (tv.getD 3 0), (tv.getD 4 0)].getD ((v6).toNat) (0 : Int)))))), (16, [], .v (.c (.elv 2 ((v6).toNat) 1 0 5)))], [(2, [], .vec 5 (.int .u64) sv2), (3, [], .vec 5 (.int .u64) [(tv.getD 0 0), (tv.getD 1 0), (tv.getD 2 0), (tv.getD 3 0), (tv.getD 4 0)]), (4, [], .vec 5 (.int .u64) (List.replicate 5 (0 : Int)))]⟩ : St)) (by kernel_rfl) ⟨trivial, o1, trivial⟩ ?_
      refine awd_one (i := 8) (by kernel_rfl) ?_
      refine adop_stepp [2, 3, 4, 6] [2, 3, 4] (ob := True) (st' := (⟨19, [(2, [], .v (.c (.ptr 2 0))), (3, [], .v (.c (.ptr 3 0))), (4, [], .v (.c (.ptr 4 0))), (6, [], .v (.c (.pI v6)))], [(2, [], .vec 5 (.int .u64) (sv2.set ((v6).toNat) (bOr .u64 (sv2.getD ((v6).toNat) (0 : Int)) ([(tv.getD 0 0), (tv.getD 1 0), (tv.getD 2 0), (tv.getD 3 0), (tv.getD 4 0)].getD ((v6).toNat) (0 : Int))))), (3, [], .vec 5 (.int .u64) [(tv.getD 0 0), (tv.getD 1 0), (tv.getD 2 0), (tv.getD 3 0), (tv.getD 4 0)]), (4, [], .vec 5 (.int .u64) (List.replicate 5 (0 : Int)))]⟩ : St)) rfl (by kernel_rfl) trivial ?_
      refine awd_done (by kernel_rfl) ?_
      refine blockQ_n ?_
      refine thenQ_n ?_
      refine aw_region ?_
      obtain ⟨o1, h⟩ := h
      refine awl_runp 2 [2, 3, 4, 6] [2, 3, 4] (ob := (InR (v6 + (1 : Int)) ∧ True ∧ True)) (st' := (⟨19, [(2, [], .v (.c (.ptr 2 0))), (3, [], .v (.c (.ptr 3 0))), (4, [], .v (.c (.ptr 4 0))), (6, [], .v (.c (.pI (v6 + (1 : Int)))))], [(2, [], .vec 5 (.int .u64) (sv2.set ((v6).toNat) (bOr .u64 (sv2.getD ((v6).toNat) (0 : Int)) ([(tv.getD 0 0), (tv.getD 1 0), (tv.getD 2 0), (tv.getD 3 0), (tv.getD 4 0)].getD ((v6).toNat) (0 : Int))))), (3, [], .vec 5 (.int .u64) [(tv.getD 0 0), (tv.getD 1 0), (tv.getD 2 0), (tv.getD 3 0), (tv.getD 4 0)]), (4, [], .vec 5 (.int .u64) (List.replicate 5 (0 : Int)))]⟩ : St)) (by kernel_rfl) ⟨o1, trivial, trivial⟩ ?_
      refine awl_nil ?_
      exact thenQ_n ⟨((v6 + (1 : Int)), (sv2.set ((v6).toNat) (bOr .u64 (sv2.getD ((v6).toNat) (0 : Int)) ([(tv.getD 0 0), (tv.getD 1 0), (tv.getD 2 0), (tv.getD 3 0), (tv.getD 4 0)].getD ((v6).toNat) (0 : Int))))), rfl, h⟩
    · have h := h.2 hb
      refine aw_conv [.prune [2, 4] [2, 4]] (st' := (⟨19, [(2, [], .v (.c (.ptr 2 0))), (4, [], .v (.c (.ptr 4 0)))], [(2, [], .vec 5 (.int .u64) sv2), (4, [], .vec 5 (.int .u64) (List.replicate 5 (0 : Int)))]⟩ : St)) (by kernel_rfl) ?_
      refine aw_exit ?_
      refine thenQ_x ?_
      refine thenQ_x ?_
      refine blockQ_hit ?_
      exact rest1 sv2 h

end Dec
