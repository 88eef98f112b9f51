/-
  Printed by dec2.py: of each function its plain demand, and that the demand gives the contract.
-/
import Derived.Test.YtckghdhnmpnljaaGenUa
set_option linter.unusedVariables false
set_option linter.unusedSimpArgs false
set_option maxRecDepth 100000
namespace Dec
open Go Go.RowKit Go.Proofs

-- coppicer/machine.Has
def VC44 (setv : Int) (n : Int) (K : Bool → Prop) : Prop :=
  ((0 ≤ setv ∧ 0 ≤ n) ∧ K (decide ((bAnd .u32 (bShr .u32 setv n) (1 : Int)) = (1 : Int))))

set_option maxHeartbeats 4000000 in
theorem link44 (setv : Int) (n : Int) (K : Bool → Prop) (h : VC44 setv n K) : ACalls Try.prog 44 [toV1 (.int .u32) setv, toV1 (.int .i64) n] (fun res => ∃ y, res = (fun y => [toV1 .bool y]) y ∧ K y) := by
  refine acalls_of_aw [.bool] [.t 4] Try.func44 rfl rfl rfl ?_
  unfold VC44 at h
  refine aw_seq ?_
  refine aw_region ?_
  refine awl_runp 1 [0, 1] [] (ob := (True ∧ True)) (st' := (⟨10, [(0, [], .v (.c (.p (.int .u32) setv))), (1, [], .v (.c (.p (.int .i64) n)))], []⟩ : St)) (by kernel_rfl) ⟨trivial, trivial⟩ ?_
  refine awl_nil ?_
  refine thenQ_n ?_
  refine aw_seq ?_
  refine aw_region ?_
  obtain ⟨o1, h⟩ := h
  refine awl_runp 6 [4] [] (ob := (True ∧ True ∧ (0 ≤ setv ∧ 0 ≤ n) ∧ True ∧ True ∧ True ∧ True)) (st' := (⟨10, [(4, [], .v (.c (.p .bool (decide ((bAnd .u32 (bShr .u32 setv n) (1 : Int)) = (1 : Int))))))], []⟩ : St)) (by kernel_rfl) ⟨trivial, trivial, o1, trivial, trivial, trivial, trivial⟩ ?_
  refine awl_nil ?_
  refine thenQ_n ?_
  refine aw_ret ?_
  exact retQ_r (σ := Bool) (R := (fun y => [toV1 .bool y])) (ob := (True ∧ True)) (decide ((bAnd .u32 (bShr .u32 setv n) (1 : Int)) = (1 : Int))) (by kernel_rfl) ⟨trivial, trivial⟩ h


-- coppicer/sentence.fault$1
def VC101 (x : Int) (a1 : Int) (K : Bool → Prop) : Prop :=
  K ((decide ((0 : Int) ≤ x)) && (decide (x < a1)))

set_option maxHeartbeats 4000000 in
theorem link101 (x : Int) (a1 : Int) (K : Bool → Prop) (h : VC101 x a1 K) : ACalls Try.prog 101 [toV1 (.int .i64) x, .c (.ad (.int .i64) a1)] (fun res => ∃ y, res = (fun y => [toV1 .bool y]) y ∧ K y) := by
  refine acalls_of_aw [.bool] [.t 3] Try.func101 rfl rfl rfl ?_
  unfold VC101 at h
  refine aw_seq ?_
  refine aw_region ?_
  refine awl_runp 1 [0, 1] [] (ob := (True ∧ True)) (st' := (⟨11, [(0, [], .v (.c (.p (.int .i64) x))), (1, [], .v (.c (.ad (.int .i64) a1)))], []⟩ : St)) (by kernel_rfl) ⟨trivial, trivial⟩ ?_
  refine awl_nil ?_
  refine thenQ_n ?_
  refine aw_seq ?_
  refine aw_region ?_
  refine awl_runp 8 [3] [] (ob := (True ∧ True ∧ True ∧ ((decide ((0 : Int) ≤ x)) = true → True) ∧ ((decide ((0 : Int) ≤ x)) = true → True) ∧ ((decide ((0 : Int) ≤ x)) = true → True) ∧ True ∧ True ∧ True)) (st' := (⟨11, [(3, [], .v (.c (.p .bool ((decide ((0 : Int) ≤ x)) && (decide (x < a1))))))], []⟩ : St)) (by kernel_rfl) ⟨trivial, trivial, trivial, (fun _ => trivial), (fun _ => trivial), (fun _ => trivial), trivial, trivial, trivial⟩ ?_
  refine awl_nil ?_
  refine thenQ_n ?_
  refine aw_ret ?_
  exact retQ_r (σ := Bool) (R := (fun y => [toV1 .bool y])) (ob := (True ∧ True)) ((decide ((0 : Int) ≤ x)) && (decide (x < a1))) (by kernel_rfl) ⟨trivial, trivial⟩ h

-- coppicer/sentence.fault
def VC85_k2 (K : Int → Prop) : Prop :=
  K (0 : Int)

def VC85_k4 (K : Int → Prop) : Prop :=
  VC85_k2 K

def VC85_k3 (i : Int) (n : (Int × (Int × Int))) (K : Int → Prop) (v25 : Bool) : Prop :=
  ((v25 = true → VC101 n.2.1 i (fun (ret31v : Bool) => gcall (α := Bool) (!(!ret31v)) (VC101 n.2.2 i) false (fun (ret37v : Bool) => ((((!ret31v) || (!ret37v)) = true → K (2 : Int)) ∧ (((!ret31v) || (!ret37v)) = false → VC85_k4 K))))) ∧ (v25 = false → (((decide (n.1 = (6 : Int))) = true → VC101 n.2.1 i (fun (ret45v : Bool) => (((!ret45v) = true → K (2 : Int)) ∧ ((!ret45v) = false → VC85_k4 K)))) ∧ ((decide (n.1 = (6 : Int))) = false → K (6 : Int)))))

def VC85_k1 (k : Int) (i : Int) (n : (Int × (Int × Int))) (K : Int → Prop) (v11 : Bool) : Prop :=
  ((v11 = true → K (0 : Int)) ∧ (v11 = false → (((decide (n.1 = (3 : Int))) = true → ((((decide (n.2.1 < (0 : Int))) || (decide (k ≤ n.2.1))) = true → K (2 : Int)) ∧ (((decide (n.2.1 < (0 : Int))) || (decide (k ≤ n.2.1))) = false → VC85_k2 K))) ∧ ((decide (n.1 = (3 : Int))) = false → (((decide (n.1 = (4 : Int))) = true → VC85_k3 i n K (decide (n.1 = (4 : Int)))) ∧ ((decide (n.1 = (4 : Int))) = false → VC85_k3 i n K (decide (n.1 = (5 : Int)))))))))

def VC85 (k : Int) (i : Int) (n : (Int × (Int × Int))) (K : Int → Prop) : Prop :=
  (((decide (n.1 = (1 : Int))) = true → VC85_k1 k i n K (decide (n.1 = (1 : Int)))) ∧ ((decide (n.1 = (1 : Int))) = false → VC85_k1 k i n K (decide (n.1 = (2 : Int)))))

set_option maxHeartbeats 4000000 in
theorem link85 (k : Int) (i : Int) (n : (Int × (Int × Int))) (K : Int → Prop) (h : VC85 k i n K) : ACalls Try.prog 85 [toV1 (.int .i64) k, toV1 (.int .i64) i, toV1 (.pr (.int .i64) (.pr (.int .i64) (.int .i64))) n] (fun res => ∃ y, res = (fun y => [toV1 (.int .i64) y]) y ∧ K y) := by
  refine acalls_of_aw [(.int .i64)] [.t 6] Try.func85 rfl rfl rfl ?_
  unfold VC85 at h
  refine aw_seq ?_
  refine aw_region ?_
  refine awl_runp 3 [0, 4, 5] [4, 5] (ob := (True ∧ True ∧ True ∧ True)) (st' := (⟨47, [(0, [], .v (.c (.p (.int .i64) k))), (4, [], .v (.c (.ptr 4 0))), (5, [], .v (.c (.ptr 5 0)))], [(4, [], .box [.p (.int .i64) i]), (5, [], .box [.p (.int .i64) n.1, .p (.int .i64) n.2.1, .p (.int .i64) n.2.2])]⟩ : St)) (by kernel_rfl) ⟨trivial, trivial, trivial, trivial⟩ ?_
  refine awl_nil ?_
  refine thenQ_n ?_
  refine aw_seq ?_
  refine aw_region ?_
  refine awl_conv [.freezeB 4 (.int .i64)] (st' := (⟨47, [(0, [], .v (.c (.p (.int .i64) k))), (4, [], .v (.c (.ad (.int .i64) i))), (5, [], .v (.c (.ptr 5 0)))], [(5, [], .box [.p (.int .i64) n.1, .p (.int .i64) n.2.1, .p (.int .i64) n.2.2])]⟩ : St)) (by kernel_rfl) ?_
  refine awl_runp 2 [0, 5, 7] [5] (ob := (True ∧ True ∧ True)) (st' := (⟨47, [(0, [], .v (.c (.p (.int .i64) k))), (5, [], .v (.c (.ptr 5 0))), (7, [], .v (.c (.fn 101 [(⟨(.int .i64), i⟩ : Dat)])))], [(5, [], .box [.p (.int .i64) n.1, .p (.int .i64) n.2.1, .p (.int .i64) n.2.2])]⟩ : St)) (by kernel_rfl) ⟨trivial, trivial, trivial⟩ ?_
  refine awl_nil ?_
  refine thenQ_n ?_
  refine aw_seq ?_
  refine aw_seq ?_
  refine aw_region ?_
  refine awl_runp 2 [0, 5, 7, 10] [5] (ob := (True ∧ True ∧ True)) (st' := (⟨47, [(0, [], .v (.c (.p (.int .i64) k))), (5, [], .v (.c (.ptr 5 0))), (7, [], .v (.c (.fn 101 [(⟨(.int .i64), i⟩ : Dat)]))), (10, [], .v (.c (.p (.int .i64) n.1)))], [(5, [], .box [.p (.int .i64) n.1, .p (.int .i64) n.2.1, .p (.int .i64) n.2.2])]⟩ : St)) (by kernel_rfl) ⟨trivial, trivial, trivial⟩ ?_
  refine awl_nil ?_
  refine thenQ_n ?_
  refine aw_block ?_
  refine aw_seq ?_
  refine aw_seq ?_
  refine aw_region ?_
  refine awl_runp 2 [0, 5, 7, 10, 11] [5] (ob := (True ∧ True ∧ True)) (st' := (⟨47, [(0, [], .v (.c (.p (.int .i64) k))), (5, [], .v (.c (.ptr 5 0))), (7, [], .v (.c (.fn 101 [(⟨(.int .i64), i⟩ : Dat)]))), (10, [], .v (.c (.p (.int .i64) n.1))), (11, [], .v (.c (.p .bool (decide (n.1 = (1 : Int))))))], [(5, [], .box [.p (.int .i64) n.1, .p (.int .i64) n.2.1, .p (.int .i64) n.2.2])]⟩ : St)) (by kernel_rfl) ⟨trivial, trivial, trivial⟩ ?_
  refine awl_nil ?_
  refine thenQ_n ?_
  refine withJoin (σ := Bool) (fun s => (⟨47, [(0, [], .v (.c (.p (.int .i64) k))), (5, [], .v (.c (.ptr 5 0))), (7, [], .v (.c (.fn 101 [(⟨(.int .i64), i⟩ : Dat)]))), (10, [], .v (.c (.p (.int .i64) n.1))), (11, [], .v (.c (.p .bool s)))], [(5, [], .box [.p (.int .i64) n.1, .p (.int .i64) n.2.1, .p (.int .i64) n.2.2])]⟩ : St)) (fun s => VC85_k1 k i n K s) (fun v11 h => ?_) (fun rest4 => ?_)
  · have h : VC85_k1 k i n K v11 := h
    unfold VC85_k1 at h
    refine thenQ_n ?_
    refine aw_cond (b := v11) (by kernel_rfl) (fun hb => ?_) (fun hb => ?_)
    · have h := h.1 hb
      refine aw_seq ?_
      refine aw_region ?_
      refine awl_runp 1 [6] [] (ob := (True ∧ True)) (st' := (⟨47, [(6, [], .v (.c (.p (.int .i64) (0 : Int))))], []⟩ : St)) (by kernel_rfl) ⟨trivial, trivial⟩ ?_
      refine awl_nil ?_
      refine thenQ_n ?_
      refine aw_ret ?_
      refine blockQ_r ?_
      refine thenQ_r ?_
      exact retQ_r (σ := Int) (R := (fun y => [toV1 (.int .i64) y])) (ob := (True ∧ True)) (0 : Int) (by kernel_rfl) ⟨trivial, trivial⟩ h
    · have h := h.2 hb
      refine aw_seq ?_
      refine aw_region ?_
      refine awl_runp 2 [0, 5, 7, 10, 14] [5] (ob := (True ∧ True ∧ True)) (st' := (⟨47, [(0, [], .v (.c (.p (.int .i64) k))), (5, [], .v (.c (.ptr 5 0))), (7, [], .v (.c (.fn 101 [(⟨(.int .i64), i⟩ : Dat)]))), (10, [], .v (.c (.p (.int .i64) n.1))), (14, [], .v (.c (.p .bool (decide (n.1 = (3 : Int))))))], [(5, [], .box [.p (.int .i64) n.1, .p (.int .i64) n.2.1, .p (.int .i64) n.2.2])]⟩ : St)) (by kernel_rfl) ⟨trivial, trivial, trivial⟩ ?_
      refine awl_nil ?_
      refine thenQ_n ?_
      refine withJoin (σ := Unit) (fun s => (⟨47, [], []⟩ : St)) (fun s => VC85_k2 K) (fun s h => ?_) (fun rest1 => ?_)
      · have h : VC85_k2 K := h
        unfold VC85_k2 at h
        refine blockQ_n ?_
        refine thenQ_n ?_
        refine aw_seq ?_
        refine aw_region ?_
        refine awl_runp 1 [6] [] (ob := (True ∧ True)) (st' := (⟨47, [(6, [], .v (.c (.p (.int .i64) (0 : Int))))], []⟩ : St)) (by kernel_rfl) ⟨trivial, trivial⟩ ?_
        refine awl_nil ?_
        refine thenQ_n ?_
        refine aw_ret ?_
        exact retQ_r (σ := Int) (R := (fun y => [toV1 (.int .i64) y])) (ob := (True ∧ True)) (0 : Int) (by kernel_rfl) ⟨trivial, trivial⟩ h
      · refine aw_cond (b := (decide (n.1 = (3 : Int)))) (by kernel_rfl) (fun hb => ?_) (fun hb => ?_)
        · have h := h.1 hb
          refine aw_seq ?_
          refine aw_region ?_
          refine awl_runp 9 [24] [] (ob := (True ∧ True ∧ True ∧ True ∧ ((decide (n.2.1 < (0 : Int))) = false → True) ∧ ((decide (n.2.1 < (0 : Int))) = false → True) ∧ ((decide (n.2.1 < (0 : Int))) = false → True) ∧ ((decide (n.2.1 < (0 : Int))) = false → True) ∧ True ∧ True)) (st' := (⟨47, [(24, [], .v (.c (.p .bool ((decide (n.2.1 < (0 : Int))) || (decide (k ≤ n.2.1))))))], []⟩ : St)) (by kernel_rfl) ⟨trivial, trivial, trivial, trivial, (fun _ => trivial), (fun _ => trivial), (fun _ => trivial), (fun _ => trivial), trivial, trivial⟩ ?_
          refine awl_nil ?_
          refine thenQ_n ?_
          refine aw_cond (b := ((decide (n.2.1 < (0 : Int))) || (decide (k ≤ n.2.1)))) (by kernel_rfl) (fun hb => ?_) (fun hb => ?_)
          · have h := h.1 hb
            refine aw_seq ?_
            refine aw_region ?_
            refine awl_runp 1 [6] [] (ob := (True ∧ True)) (st' := (⟨47, [(6, [], .v (.c (.p (.int .i64) (2 : Int))))], []⟩ : St)) (by kernel_rfl) ⟨trivial, trivial⟩ ?_
            refine awl_nil ?_
            refine thenQ_n ?_
            refine aw_ret ?_
            refine blockQ_r ?_
            refine thenQ_r ?_
            exact retQ_r (σ := Int) (R := (fun y => [toV1 (.int .i64) y])) (ob := (True ∧ True)) (2 : Int) (by kernel_rfl) ⟨trivial, trivial⟩ h
          · have h := h.2 hb
            refine aw_conv [.prune [] []] (st' := (⟨47, [], []⟩ : St)) (by kernel_rfl) ?_
            refine aw_skip ?_
            exact rest1 () h
        · have h := h.2 hb
          refine aw_seq ?_
          refine aw_seq ?_
          refine aw_region ?_
          refine awl_runp 2 [5, 7, 10, 25] [5] (ob := (True ∧ True ∧ True)) (st' := (⟨47, [(5, [], .v (.c (.ptr 5 0))), (7, [], .v (.c (.fn 101 [(⟨(.int .i64), i⟩ : Dat)]))), (10, [], .v (.c (.p (.int .i64) n.1))), (25, [], .v (.c (.p .bool (decide (n.1 = (4 : Int))))))], [(5, [], .box [.p (.int .i64) n.1, .p (.int .i64) n.2.1, .p (.int .i64) n.2.2])]⟩ : St)) (by kernel_rfl) ⟨trivial, trivial, trivial⟩ ?_
          refine awl_nil ?_
          refine thenQ_n ?_
          refine withJoin (σ := Bool) (fun s => (⟨47, [(5, [], .v (.c (.ptr 5 0))), (7, [], .v (.c (.fn 101 [(⟨(.int .i64), i⟩ : Dat)]))), (10, [], .v (.c (.p (.int .i64) n.1))), (25, [], .v (.c (.p .bool s)))], [(5, [], .box [.p (.int .i64) n.1, .p (.int .i64) n.2.1, .p (.int .i64) n.2.2])]⟩ : St)) (fun s => VC85_k3 i n K s) (fun v25 h => ?_) (fun rest3 => ?_)
          · have h : VC85_k3 i n K v25 := h
            unfold VC85_k3 at h
            refine thenQ_n ?_
            refine withJoin (σ := Unit) (fun s => (⟨47, [], []⟩ : St)) (fun s => VC85_k4 K) (fun s h => ?_) (fun rest2 => ?_)
            · have h : VC85_k4 K := h
              unfold VC85_k4 at h
              exact rest1 () h
            · refine aw_cond (b := v25) (by kernel_rfl) (fun hb => ?_) (fun hb => ?_)
              · have h := h.1 hb
                refine aw_seq ?_
                refine aw_region ?_
                refine awl_runp 3 [5, 7, 28, 30] [5] (ob := (True ∧ True ∧ True ∧ True)) (st' := (⟨47, [(5, [], .v (.c (.ptr 5 0))), (7, [], .v (.c (.fn 101 [(⟨(.int .i64), i⟩ : Dat)]))), (28, [], .v (.c (.fn 101 [(⟨(.int .i64), i⟩ : Dat)]))), (30, [], .v (.c (.p (.int .i64) n.2.1)))], [(5, [], .box [.p (.int .i64) n.1, .p (.int .i64) n.2.1, .p (.int .i64) n.2.2])]⟩ : St)) (by kernel_rfl) ⟨trivial, trivial, trivial, trivial⟩ ?_
                refine awl_callk (p := []) (l := [toV1 (.int .i64) n.2.1]) (cl := [.c (.ad (.int .i64) i)]) false [.d (.int .i64)] [5, 7, 31] [5] (fun (ret31v : Bool) => gcall (α := Bool) (!(!ret31v)) (VC101 n.2.2 i) false (fun (ret37v : Bool) => ((((!ret31v) || (!ret37v)) = true → K (2 : Int)) ∧ (((!ret31v) || (!ret37v)) = false → VC85_k4 K)))) (fun ret31v => [toV1 .bool ret31v]) (fun ret31v => (⟨47, [(5, [], .v (.c (.ptr 5 0))), (7, [], .v (.c (.fn 101 [(⟨(.int .i64), i⟩ : Dat)]))), (31, [], .v (.c (.p .bool ret31v)))], [(5, [], .box [.p (.int .i64) n.1, .p (.int .i64) n.2.1, .p (.int .i64) n.2.2])]⟩ : St)) (by kernel_rfl) rfl (by kernel_rfl) rfl (by kernel_rfl) Try.call101 (by kernel_rfl) (fun ret31v => by kernel_rfl) (fun e => by cases e) (fun hg => link101 n.2.1 i _ h) (fun hg => noF hg) (fun ret31v h => ?_)
                have h : gcall (α := Bool) (!(!ret31v)) (VC101 n.2.2 i) false (fun (ret37v : Bool) => ((((!ret31v) || (!ret37v)) = true → K (2 : Int)) ∧ (((!ret31v) || (!ret37v)) = false → VC85_k4 K))) := h
                refine awl_runp 5 [33, 34, 36] [] (ob := (True ∧ True ∧ ((!ret31v) = false → True) ∧ ((!ret31v) = false → True) ∧ ((!ret31v) = false → True) ∧ True)) (st' := (⟨47, [(33, [], .v (.c (.p .bool (!ret31v)))), (34, [(33, false)], .v (.c (.fn 101 [(⟨(.int .i64), i⟩ : Dat)]))), (36, [(33, false)], .v (.c (.p (.int .i64) n.2.2)))], []⟩ : St)) (by kernel_rfl) ⟨trivial, trivial, (fun _ => trivial), (fun _ => trivial), (fun _ => trivial), trivial⟩ ?_
                refine awl_callk (p := [(33, false)]) (l := [toV1 (.int .i64) n.2.2]) (cl := [.c (.ad (.int .i64) i)]) false [.d (.int .i64)] [33, 37] [] (fun (ret37v : Bool) => ((((!ret31v) || (!ret37v)) = true → K (2 : Int)) ∧ (((!ret31v) || (!ret37v)) = false → VC85_k4 K))) (fun ret37v => [toV1 .bool ret37v]) (fun ret37v => (⟨47, [(33, [], .v (.c (.p .bool (!ret31v)))), (37, [(33, false)], .v (.c (.p .bool ret37v)))], []⟩ : St)) (by kernel_rfl) rfl (by kernel_rfl) rfl (by kernel_rfl) Try.call101 (by kernel_rfl) (fun ret37v => by kernel_rfl) (fun e => by cases e) (fun hg => link101 n.2.2 i _ (by have := gcall_T h (show (!(!ret31v)) = true from hg); exact this)) (fun hg => ⟨false, by have := gcall_F h (show (!(!ret31v)) = false from hg); exact this⟩) (fun ret37v h => ?_)
                have h : ((((!ret31v) || (!ret37v)) = true → K (2 : Int)) ∧ (((!ret31v) || (!ret37v)) = false → VC85_k4 K)) := h
                refine awl_runp 2 [39] [] (ob := (((!ret31v) = false → True) ∧ True ∧ True)) (st' := (⟨47, [(39, [], .v (.c (.p .bool ((!ret31v) || (!ret37v)))))], []⟩ : St)) (by kernel_rfl) ⟨(fun _ => trivial), trivial, trivial⟩ ?_
                refine awl_nil ?_
                refine thenQ_n ?_
                refine aw_cond (b := ((!ret31v) || (!ret37v))) (by kernel_rfl) (fun hb => ?_) (fun hb => ?_)
                · have h := h.1 hb
                  refine aw_seq ?_
                  refine aw_region ?_
                  refine awl_runp 1 [6] [] (ob := (True ∧ True)) (st' := (⟨47, [(6, [], .v (.c (.p (.int .i64) (2 : Int))))], []⟩ : St)) (by kernel_rfl) ⟨trivial, trivial⟩ ?_
                  refine awl_nil ?_
                  refine thenQ_n ?_
                  refine aw_ret ?_
                  refine blockQ_r ?_
                  refine thenQ_r ?_
                  exact retQ_r (σ := Int) (R := (fun y => [toV1 (.int .i64) y])) (ob := (True ∧ True)) (2 : Int) (by kernel_rfl) ⟨trivial, trivial⟩ h
                · have h := h.2 hb
                  refine aw_conv [.prune [] []] (st' := (⟨47, [], []⟩ : St)) (by kernel_rfl) ?_
                  refine aw_skip ?_
                  exact rest2 () h
              · have h := h.2 hb
                refine aw_seq ?_
                refine aw_region ?_
                refine awl_runp 2 [5, 7, 40] [5] (ob := (True ∧ True ∧ True)) (st' := (⟨47, [(5, [], .v (.c (.ptr 5 0))), (7, [], .v (.c (.fn 101 [(⟨(.int .i64), i⟩ : Dat)]))), (40, [], .v (.c (.p .bool (decide (n.1 = (6 : Int))))))], [(5, [], .box [.p (.int .i64) n.1, .p (.int .i64) n.2.1, .p (.int .i64) n.2.2])]⟩ : St)) (by kernel_rfl) ⟨trivial, trivial, trivial⟩ ?_
                refine awl_nil ?_
                refine thenQ_n ?_
                refine aw_cond (b := (decide (n.1 = (6 : Int)))) (by kernel_rfl) (fun hb => ?_) (fun hb => ?_)
                · have h := h.1 hb
                  refine aw_seq ?_
                  refine aw_region ?_
                  refine awl_runp 3 [42, 44] [] (ob := (True ∧ True ∧ True ∧ True)) (st' := (⟨47, [(42, [], .v (.c (.fn 101 [(⟨(.int .i64), i⟩ : Dat)]))), (44, [], .v (.c (.p (.int .i64) n.2.1)))], []⟩ : St)) (by kernel_rfl) ⟨trivial, trivial, trivial, trivial⟩ ?_
                  refine awl_callk (p := []) (l := [toV1 (.int .i64) n.2.1]) (cl := [.c (.ad (.int .i64) i)]) false [.d (.int .i64)] [45] [] (fun (ret45v : Bool) => (((!ret45v) = true → K (2 : Int)) ∧ ((!ret45v) = false → VC85_k4 K))) (fun ret45v => [toV1 .bool ret45v]) (fun ret45v => (⟨47, [(45, [], .v (.c (.p .bool ret45v)))], []⟩ : St)) (by kernel_rfl) rfl (by kernel_rfl) rfl (by kernel_rfl) Try.call101 (by kernel_rfl) (fun ret45v => by kernel_rfl) (fun e => by cases e) (fun hg => link101 n.2.1 i _ h) (fun hg => noF hg) (fun ret45v h => ?_)
                  have h : (((!ret45v) = true → K (2 : Int)) ∧ ((!ret45v) = false → VC85_k4 K)) := h
                  refine awl_runp 1 [46] [] (ob := (True ∧ True)) (st' := (⟨47, [(46, [], .v (.c (.p .bool (!ret45v))))], []⟩ : St)) (by kernel_rfl) ⟨trivial, trivial⟩ ?_
                  refine awl_nil ?_
                  refine thenQ_n ?_
                  refine aw_cond (b := (!ret45v)) (by kernel_rfl) (fun hb => ?_) (fun hb => ?_)
                  · have h := h.1 hb
                    refine aw_seq ?_
                    refine aw_region ?_
                    refine awl_runp 1 [6] [] (ob := (True ∧ True)) (st' := (⟨47, [(6, [], .v (.c (.p (.int .i64) (2 : Int))))], []⟩ : St)) (by kernel_rfl) ⟨trivial, trivial⟩ ?_
                    refine awl_nil ?_
                    refine thenQ_n ?_
                    refine aw_ret ?_
                    refine blockQ_r ?_
                    refine thenQ_r ?_
                    exact retQ_r (σ := Int) (R := (fun y => [toV1 (.int .i64) y])) (ob := (True ∧ True)) (2 : Int) (by kernel_rfl) ⟨trivial, trivial⟩ h
                  · have h := h.2 hb
                    refine aw_conv [.prune [] []] (st' := (⟨47, [], []⟩ : St)) (by kernel_rfl) ?_
                    refine aw_skip ?_
                    exact rest2 () h
                · have h := h.2 hb
                  refine aw_seq ?_
                  refine aw_region ?_
                  refine awl_runp 1 [6] [] (ob := (True ∧ True)) (st' := (⟨47, [(6, [], .v (.c (.p (.int .i64) (6 : Int))))], []⟩ : St)) (by kernel_rfl) ⟨trivial, trivial⟩ ?_
                  refine awl_nil ?_
                  refine thenQ_n ?_
                  refine aw_ret ?_
                  refine blockQ_r ?_
                  refine thenQ_r ?_
                  exact retQ_r (σ := Int) (R := (fun y => [toV1 (.int .i64) y])) (ob := (True ∧ True)) (6 : Int) (by kernel_rfl) ⟨trivial, trivial⟩ h
          · refine aw_cond (b := (decide (n.1 = (4 : Int)))) (by kernel_rfl) (fun hb => ?_) (fun hb => ?_)
            · have h := h.1 hb
              refine aw_skip ?_
              exact rest3 (decide (n.1 = (4 : Int))) h
            · have h := h.2 hb
              refine aw_region ?_
              refine awl_runp 2 [5, 7, 10, 25] [5] (ob := (True ∧ True ∧ True)) (st' := (⟨47, [(5, [], .v (.c (.ptr 5 0))), (7, [], .v (.c (.fn 101 [(⟨(.int .i64), i⟩ : Dat)]))), (10, [], .v (.c (.p (.int .i64) n.1))), (25, [], .v (.c (.p .bool (decide (n.1 = (5 : Int))))))], [(5, [], .box [.p (.int .i64) n.1, .p (.int .i64) n.2.1, .p (.int .i64) n.2.2])]⟩ : St)) (by kernel_rfl) ⟨trivial, trivial, trivial⟩ ?_
              refine awl_nil ?_
              exact rest3 (decide (n.1 = (5 : Int))) h
  · refine aw_cond (b := (decide (n.1 = (1 : Int)))) (by kernel_rfl) (fun hb => ?_) (fun hb => ?_)
    · have h := h.1 hb
      refine aw_skip ?_
      exact rest4 (decide (n.1 = (1 : Int))) h
    · have h := h.2 hb
      refine aw_region ?_
      refine awl_runp 2 [0, 5, 7, 10, 11] [5] (ob := (True ∧ True ∧ True)) (st' := (⟨47, [(0, [], .v (.c (.p (.int .i64) k))), (5, [], .v (.c (.ptr 5 0))), (7, [], .v (.c (.fn 101 [(⟨(.int .i64), i⟩ : Dat)]))), (10, [], .v (.c (.p (.int .i64) n.1))), (11, [], .v (.c (.p .bool (decide (n.1 = (2 : Int))))))], [(5, [], .box [.p (.int .i64) n.1, .p (.int .i64) n.2.1, .p (.int .i64) n.2.2])]⟩ : St)) (by kernel_rfl) ⟨trivial, trivial, trivial⟩ ?_
      refine awl_nil ?_
      exact rest4 (decide (n.1 = (2 : Int))) h

-- coppicer/sentence.Check
def VC45_k1 (K : Int → Prop) : Prop :=
  K (0 : Int)

def VC45_l1 (k : Int) (l : (List (Int × (Int × Int)))) (K : Int → Prop) (v26 : Int) (X1 : Int → Prop) : Prop :=
  (((decide (v26 < (l.length : Int))) = true → (inIdx v26 l.length ∧ VC85 k v26 (l.getD (v26).toNat ((0 : Int), ((0 : Int), (0 : Int)))) (fun (ret34v : Int) => (((!decide (ret34v = (0 : Int))) = true → K ret34v) ∧ ((!decide (ret34v = (0 : Int))) = false → (InR (v26 + (1 : Int)) ∧ X1 (v26 + (1 : Int)))))))) ∧ ((decide (v26 < (l.length : Int))) = false → VC45_k1 K))

def VC45 (k : Int) (l : (List (Int × (Int × Int)))) (K : Int → Prop) : Prop :=
  ((((((decide (k < (1 : Int))) || (decide ((3 : Int) < k))) || (decide ((l.length : Int) = (0 : Int)))) || (decide ((9 : Int) < (l.length : Int)))) = true → K (1 : Int)) ∧ (((((decide (k < (1 : Int))) || (decide ((3 : Int) < k))) || (decide ((l.length : Int) = (0 : Int)))) || (decide ((9 : Int) < (l.length : Int)))) = false → Loop (σ := Int) (fun s X => VC45_l1 k l K s X) (0 : Int)))

set_option maxHeartbeats 4000000 in
theorem link45 (k : Int) (l : (List (Int × (Int × Int)))) (K : Int → Prop) (h : VC45 k l K) : ACalls Try.prog 45 [toV1 (.int .i64) k, toV1 (.sl (.pr (.int .i64) (.pr (.int .i64) (.int .i64)))) l] (fun res => ∃ y, res = (fun y => [toV1 (.int .i64) y]) y ∧ K y) := by
  refine acalls_of_aw [(.int .i64)] [.t 4] Try.func45 rfl rfl rfl ?_
  unfold VC45 at h
  refine aw_seq ?_
  refine aw_region ?_
  refine awl_runp 1 [0, 1] [] (ob := (True ∧ True)) (st' := (⟨39, [(0, [], .v (.c (.p (.int .i64) k))), (1, [], .v (.c (.p (.sl (.pr (.int .i64) (.pr (.int .i64) (.int .i64)))) l)))], []⟩ : St)) (by kernel_rfl) ⟨trivial, trivial⟩ ?_
  refine awl_nil ?_
  refine thenQ_n ?_
  refine aw_seq ?_
  refine aw_seq ?_
  refine aw_region ?_
  refine awl_runp 16 [0, 1, 23] [] (ob := (True ∧ True ∧ True ∧ ((decide (k < (1 : Int))) = false → True) ∧ ((decide (k < (1 : Int))) = false → True) ∧ True ∧ True ∧ (((decide (k < (1 : Int))) || (decide ((3 : Int) < k))) = false → True) ∧ (((decide (k < (1 : Int))) || (decide ((3 : Int) < k))) = false → True) ∧ (((decide (k < (1 : Int))) || (decide ((3 : Int) < k))) = false → True) ∧ True ∧ True ∧ ((((decide (k < (1 : Int))) || (decide ((3 : Int) < k))) || (decide ((l.length : Int) = (0 : Int)))) = false → True) ∧ ((((decide (k < (1 : Int))) || (decide ((3 : Int) < k))) || (decide ((l.length : Int) = (0 : Int)))) = false → True) ∧ ((((decide (k < (1 : Int))) || (decide ((3 : Int) < k))) || (decide ((l.length : Int) = (0 : Int)))) = false → True) ∧ True ∧ True)) (st' := (⟨39, [(0, [], .v (.c (.p (.int .i64) k))), (1, [], .v (.c (.p (.sl (.pr (.int .i64) (.pr (.int .i64) (.int .i64)))) l))), (23, [], .v (.c (.p .bool ((((decide (k < (1 : Int))) || (decide ((3 : Int) < k))) || (decide ((l.length : Int) = (0 : Int)))) || (decide ((9 : Int) < (l.length : Int)))))))], []⟩ : St)) (by kernel_rfl) ⟨trivial, trivial, trivial, (fun _ => trivial), (fun _ => trivial), trivial, trivial, (fun _ => trivial), (fun _ => trivial), (fun _ => trivial), trivial, trivial, (fun _ => trivial), (fun _ => trivial), (fun _ => trivial), trivial, trivial⟩ ?_
  refine awl_nil ?_
  refine thenQ_n ?_
  refine aw_cond (b := ((((decide (k < (1 : Int))) || (decide ((3 : Int) < k))) || (decide ((l.length : Int) = (0 : Int)))) || (decide ((9 : Int) < (l.length : Int))))) (by kernel_rfl) (fun hb => ?_) (fun hb => ?_)
  · have h := h.1 hb
    refine aw_seq ?_
    refine aw_region ?_
    refine awl_runp 1 [4] [] (ob := (True ∧ True)) (st' := (⟨39, [(4, [], .v (.c (.p (.int .i64) (1 : Int))))], []⟩ : St)) (by kernel_rfl) ⟨trivial, trivial⟩ ?_
    refine awl_nil ?_
    refine thenQ_n ?_
    refine aw_ret ?_
    refine thenQ_r ?_
    exact retQ_r (σ := Int) (R := (fun y => [toV1 (.int .i64) y])) (ob := (True ∧ True)) (1 : Int) (by kernel_rfl) ⟨trivial, trivial⟩ h
  · have h := h.2 hb
    refine aw_skip ?_
    refine thenQ_n ?_
    refine aw_seq ?_
    refine aw_seq ?_
    refine aw_region ?_
    refine awl_runp 3 [0, 24, 25, 26] [] (ob := (True ∧ True ∧ True ∧ True)) (st' := (⟨39, [(0, [], .v (.c (.p (.int .i64) k))), (24, [], .v (.c (.p (.sl (.pr (.int .i64) (.pr (.int .i64) (.int .i64)))) l))), (25, [], .v (.c (.p (.int .i64) (l.length : Int)))), (26, [], .v (.c (.p (.int .i64) (0 : Int))))], []⟩ : St)) (by kernel_rfl) ⟨trivial, trivial, trivial, trivial⟩ ?_
    refine awl_nil ?_
    refine thenQ_n ?_
    refine withJoin (σ := Unit) (fun s => (⟨39, [], []⟩ : St)) (fun s => VC45_k1 K) (fun s h => ?_) (fun rest1 => ?_)
    · have h : VC45_k1 K := h
      unfold VC45_k1 at h
      refine thenQ_n ?_
      refine aw_seq ?_
      refine aw_region ?_
      refine awl_runp 1 [4] [] (ob := (True ∧ True)) (st' := (⟨39, [(4, [], .v (.c (.p (.int .i64) (0 : Int))))], []⟩ : St)) (by kernel_rfl) ⟨trivial, trivial⟩ ?_
      refine awl_nil ?_
      refine thenQ_n ?_
      refine aw_ret ?_
      exact retQ_r (σ := Int) (R := (fun y => [toV1 (.int .i64) y])) (ob := (True ∧ True)) (0 : Int) (by kernel_rfl) ⟨trivial, trivial⟩ h
    · refine aw_block ?_
      refine aw_loop (σ := Int) (fun s => (⟨39, [(0, [], .v (.c (.p (.int .i64) k))), (24, [], .v (.c (.p (.sl (.pr (.int .i64) (.pr (.int .i64) (.int .i64)))) l))), (25, [], .v (.c (.p (.int .i64) (l.length : Int)))), (26, [], .v (.c (.p (.int .i64) s)))], []⟩ : St)) (fun s X => VC45_l1 k l K s X) (s0 := (0 : Int)) (fun v26 X1 h => ?_) h
      have h : VC45_l1 k l K v26 X1 := h
      unfold VC45_l1 at h
      refine aw_seq ?_
      refine aw_region ?_
      refine awl_runp 1 [0, 24, 25, 26, 27] [] (ob := (True ∧ True)) (st' := (⟨39, [(0, [], .v (.c (.p (.int .i64) k))), (24, [], .v (.c (.p (.sl (.pr (.int .i64) (.pr (.int .i64) (.int .i64)))) l))), (25, [], .v (.c (.p (.int .i64) (l.length : Int)))), (26, [], .v (.c (.p (.int .i64) v26))), (27, [], .v (.c (.p .bool (decide (v26 < (l.length : Int))))))], []⟩ : St)) (by kernel_rfl) ⟨trivial, trivial⟩ ?_
      refine awl_nil ?_
      refine thenQ_n ?_
      refine aw_seq ?_
      refine aw_cond (b := (decide (v26 < (l.length : Int)))) (by kernel_rfl) (fun hb => ?_) (fun hb => ?_)
      · have h := h.1 hb
        refine aw_skip ?_
        refine thenQ_n ?_
        refine aw_seq ?_
        refine aw_block ?_
        refine aw_seq ?_
        refine aw_region ?_
        obtain ⟨o1, h⟩ := h
        refine awl_runp 6 [0, 5, 6, 24, 25, 26] [6] (ob := (True ∧ inIdx v26 l.length ∧ True ∧ True ∧ True ∧ True ∧ True)) (st' := (⟨39, [(0, [], .v (.c (.p (.int .i64) k))), (5, [], .v (.c (.p (.int .i64) v26))), (6, [], .v (.c (.ptr 6 0))), (24, [], .v (.c (.p (.sl (.pr (.int .i64) (.pr (.int .i64) (.int .i64)))) l))), (25, [], .v (.c (.p (.int .i64) (l.length : Int)))), (26, [], .v (.c (.p (.int .i64) v26)))], [(6, [], .box [.p (.int .i64) ((l.getD (v26).toNat ((0 : Int), ((0 : Int), (0 : Int)))).1), .p (.int .i64) ((l.getD (v26).toNat ((0 : Int), ((0 : Int), (0 : Int)))).2.1), .p (.int .i64) ((l.getD (v26).toNat ((0 : Int), ((0 : Int), (0 : Int)))).2.2)])]⟩ : St)) (by kernel_rfl) ⟨trivial, o1, trivial, trivial, trivial, trivial, trivial⟩ ?_
        refine awl_nil ?_
        refine thenQ_n ?_
        refine aw_seq ?_
        refine aw_region ?_
        refine awl_runp 3 [0, 24, 25, 26, 31, 32, 33] [] (ob := (True ∧ True ∧ True ∧ True)) (st' := (⟨39, [(0, [], .v (.c (.p (.int .i64) k))), (24, [], .v (.c (.p (.sl (.pr (.int .i64) (.pr (.int .i64) (.int .i64)))) l))), (25, [], .v (.c (.p (.int .i64) (l.length : Int)))), (26, [], .v (.c (.p (.int .i64) v26))), (31, [], .v (.c (.p (.int .i64) k))), (32, [], .v (.c (.p (.int .i64) v26))), (33, [], .v (.agg [.p (.int .i64) ((l.getD (v26).toNat ((0 : Int), ((0 : Int), (0 : Int)))).1), .p (.int .i64) ((l.getD (v26).toNat ((0 : Int), ((0 : Int), (0 : Int)))).2.1), .p (.int .i64) ((l.getD (v26).toNat ((0 : Int), ((0 : Int), (0 : Int)))).2.2)]))], []⟩ : St)) (by kernel_rfl) ⟨trivial, trivial, trivial, trivial⟩ ?_
        refine awl_callk (p := []) (l := [toV1 (.int .i64) k, toV1 (.int .i64) v26, toV1 (.pr (.int .i64) (.pr (.int .i64) (.int .i64))) (l.getD (v26).toNat ((0 : Int), ((0 : Int), (0 : Int))))]) (cl := []) false [.d (.int .i64), .d (.int .i64), .d (.pr (.int .i64) (.pr (.int .i64) (.int .i64)))] [0, 24, 25, 26, 34] [] (fun (ret34v : Int) => (((!decide (ret34v = (0 : Int))) = true → K ret34v) ∧ ((!decide (ret34v = (0 : Int))) = false → (InR (v26 + (1 : Int)) ∧ X1 (v26 + (1 : Int)))))) (fun ret34v => [toV1 (.int .i64) ret34v]) (fun ret34v => (⟨39, [(0, [], .v (.c (.p (.int .i64) k))), (24, [], .v (.c (.p (.sl (.pr (.int .i64) (.pr (.int .i64) (.int .i64)))) l))), (25, [], .v (.c (.p (.int .i64) (l.length : Int)))), (26, [], .v (.c (.p (.int .i64) v26))), (34, [], .v (.c (.p (.int .i64) ret34v)))], []⟩ : St)) (by kernel_rfl) rfl (by kernel_rfl) rfl (by kernel_rfl) Try.call85 (by kernel_rfl) (fun ret34v => by kernel_rfl) (fun e => by cases e) (fun hg => link85 k v26 (l.getD (v26).toNat ((0 : Int), ((0 : Int), (0 : Int)))) _ h) (fun hg => noF hg) (fun ret34v h => ?_)
        have h : (((!decide (ret34v = (0 : Int))) = true → K ret34v) ∧ ((!decide (ret34v = (0 : Int))) = false → (InR (v26 + (1 : Int)) ∧ X1 (v26 + (1 : Int))))) := h
        refine awl_runp 1 [0, 7, 24, 25, 26] [] (ob := (True ∧ True)) (st' := (⟨39, [(0, [], .v (.c (.p (.int .i64) k))), (7, [], .v (.c (.p (.int .i64) ret34v))), (24, [], .v (.c (.p (.sl (.pr (.int .i64) (.pr (.int .i64) (.int .i64)))) l))), (25, [], .v (.c (.p (.int .i64) (l.length : Int)))), (26, [], .v (.c (.p (.int .i64) v26)))], []⟩ : St)) (by kernel_rfl) ⟨trivial, trivial⟩ ?_
        refine awl_nil ?_
        refine thenQ_n ?_
        refine aw_seq ?_
        refine aw_region ?_
        refine awl_runp 2 [0, 7, 24, 25, 26, 36] [] (ob := (True ∧ True ∧ True)) (st' := (⟨39, [(0, [], .v (.c (.p (.int .i64) k))), (7, [], .v (.c (.p (.int .i64) ret34v))), (24, [], .v (.c (.p (.sl (.pr (.int .i64) (.pr (.int .i64) (.int .i64)))) l))), (25, [], .v (.c (.p (.int .i64) (l.length : Int)))), (26, [], .v (.c (.p (.int .i64) v26))), (36, [], .v (.c (.p .bool (!decide (ret34v = (0 : Int))))))], []⟩ : St)) (by kernel_rfl) ⟨trivial, trivial, trivial⟩ ?_
        refine awl_nil ?_
        refine thenQ_n ?_
        refine aw_cond (b := (!decide (ret34v = (0 : Int)))) (by kernel_rfl) (fun hb => ?_) (fun hb => ?_)
        · have h := h.1 hb
          refine aw_seq ?_
          refine aw_region ?_
          refine awl_runp 2 [4] [] (ob := (True ∧ True ∧ True)) (st' := (⟨39, [(4, [], .v (.c (.p (.int .i64) ret34v)))], []⟩ : St)) (by kernel_rfl) ⟨trivial, trivial, trivial⟩ ?_
          refine awl_nil ?_
          refine thenQ_n ?_
          refine aw_ret ?_
          refine blockQ_r ?_
          refine thenQ_r ?_
          refine thenQ_r ?_
          refine blockQ_r ?_
          refine thenQ_r ?_
          exact retQ_r (σ := Int) (R := (fun y => [toV1 (.int .i64) y])) (ob := (True ∧ True)) ret34v (by kernel_rfl) ⟨trivial, trivial⟩ h
        · have h := h.2 hb
          refine aw_skip ?_
          refine blockQ_n ?_
          refine thenQ_n ?_
          refine aw_region ?_
          obtain ⟨o1, h⟩ := h
          refine awl_runp 2 [0, 24, 25, 26] [] (ob := (InR (v26 + (1 : Int)) ∧ True ∧ True)) (st' := (⟨39, [(0, [], .v (.c (.p (.int .i64) k))), (24, [], .v (.c (.p (.sl (.pr (.int .i64) (.pr (.int .i64) (.int .i64)))) l))), (25, [], .v (.c (.p (.int .i64) (l.length : Int)))), (26, [], .v (.c (.p (.int .i64) (v26 + (1 : Int)))))], []⟩ : St)) (by kernel_rfl) ⟨o1, trivial, trivial⟩ ?_
          refine awl_nil ?_
          exact thenQ_n ⟨(v26 + (1 : Int)), rfl, h⟩
      · have h := h.2 hb
        refine aw_conv [.prune [] []] (st' := (⟨39, [], []⟩ : St)) (by kernel_rfl) ?_
        refine aw_exit ?_
        refine thenQ_x ?_
        refine thenQ_x ?_
        refine blockQ_hit ?_
        exact rest1 () h

-- coppicer/sentence.match$1
def VC86_k1 (K : (List Int) → Prop) (out : (List Int)) : Prop :=
  K out

def VC86_k2 (v12 : Int) (X1 : Int × (List Int) → Prop) (out2 : (List Int)) : Prop :=
  (InR (v12 + (1 : Int)) ∧ X1 ((v12 + (1 : Int)), out2))

def VC86_k3 (v16 : Int) (X2 : Int × (List Int) → Prop) (out3 : (List Int)) : Prop :=
  (InR (v16 + (1 : Int)) ∧ X2 ((v16 + (1 : Int)), out3))

def VC86_l2 (a : (List Int)) (b : (List Int)) (a2 : Int) (v12 : Int) (X1 : Int × (List Int) → Prop) (v16 : Int) (out2 : (List Int)) (X2 : Int × (List Int) → Prop) : Prop :=
  (((decide (v16 < a2)) = true → (inIdx v12 a.length ∧ VC44 (a.getD (v12).toNat (0 : Int)) v16 (fun (ret24v : Bool) => ((ret24v = true → (inIdx v12 out2.length ∧ inIdx v16 b.length ∧ (inIdx v12 out2.length ∧ VC86_k3 v16 X2 (out2.set ((v12).toNat) (bOr .u32 (out2.getD ((v12).toNat) (0 : Int)) (b.getD (v16).toNat (0 : Int))))))) ∧ (ret24v = false → VC86_k3 v16 X2 out2))))) ∧ ((decide (v16 < a2)) = false → VC86_k2 v12 X1 out2))

def VC86_l1 (a : (List Int)) (b : (List Int)) (a2 : Int) (K : (List Int) → Prop) (v12 : Int) (out : (List Int)) (X1 : Int × (List Int) → Prop) : Prop :=
  (((decide (v12 < a2)) = true → Loop (σ := Int × (List Int)) (fun s X => VC86_l2 a b a2 v12 X1 s.1 s.2 X) ((0 : Int), out)) ∧ ((decide (v12 < a2)) = false → VC86_k1 K out))

def VC86 (a : (List Int)) (b : (List Int)) (a2 : Int) (K : (List Int) → Prop) : Prop :=
  (room a2 ∧ Loop (σ := Int × (List Int)) (fun s X => VC86_l1 a b a2 K s.1 s.2 X) ((0 : Int), (List.replicate (a2).toNat (0 : Int))))

set_option maxHeartbeats 4000000 in
theorem link86 (a : (List Int)) (b : (List Int)) (a2 : Int) (K : (List Int) → Prop) (h : VC86 a b a2 K) : ACallsO Try.prog 86 [toV1 (.sl (.int .u32)) a, toV1 (.sl (.int .u32)) b, .c (.ad (.int .i64) a2)] 39 (.int .u32) K := by
  refine acallsO_of_aw 5 Try.func86 rfl rfl rfl ?_
  unfold VC86 at h
  refine aw_seq ?_
  refine aw_region ?_
  refine awl_runp 1 [0, 1, 2] [] (ob := (True ∧ True)) (st' := (⟨38, [(0, [], .v (.c (.p (.sl (.int .u32)) a))), (1, [], .v (.c (.p (.sl (.int .u32)) b))), (2, [], .v (.c (.ad (.int .i64) a2)))], []⟩ : St)) (by kernel_rfl) ⟨trivial, trivial⟩ ?_
  refine awl_nil ?_
  refine thenQ_n ?_
  refine aw_seq ?_
  refine aw_region ?_
  obtain ⟨o1, h⟩ := h
  refine awl_runp 3 [0, 1, 2, 6] [10] (ob := (True ∧ room a2 ∧ True ∧ True)) (st' := (⟨38, [(0, [], .v (.c (.p (.sl (.int .u32)) a))), (1, [], .v (.c (.p (.sl (.int .u32)) b))), (2, [], .v (.c (.ad (.int .i64) a2))), (6, [], .v (.c (.own 10)))], [(10, [], .arr 39 (.int .u32) (List.replicate (a2).toNat (0 : Int)))]⟩ : St)) (by kernel_rfl) ⟨trivial, o1, trivial, trivial⟩ ?_
  refine awl_nil ?_
  refine thenQ_n ?_
  refine aw_seq ?_
  refine aw_seq ?_
  refine aw_region ?_
  refine awl_runp 2 [0, 1, 2, 6, 11, 12] [10] (ob := (True ∧ True ∧ True)) (st' := (⟨38, [(0, [], .v (.c (.p (.sl (.int .u32)) a))), (1, [], .v (.c (.p (.sl (.int .u32)) b))), (2, [], .v (.c (.ad (.int .i64) a2))), (6, [], .v (.c (.own 10))), (11, [], .v (.c (.p (.int .i64) a2))), (12, [], .v (.c (.p (.int .i64) (0 : Int))))], [(10, [], .arr 39 (.int .u32) (List.replicate (a2).toNat (0 : Int)))]⟩ : St)) (by kernel_rfl) ⟨trivial, trivial, trivial⟩ ?_
  refine awl_nil ?_
  refine thenQ_n ?_
  refine withJoin (σ := (List Int)) (fun s => (⟨38, [(6, [], .v (.c (.own 10)))], [(10, [], .arr 39 (.int .u32) s)]⟩ : St)) (fun s => VC86_k1 K s) (fun out h => ?_) (fun rest1 => ?_)
  · have h : VC86_k1 K out := h
    unfold VC86_k1 at h
    refine thenQ_n ?_
    refine aw_seq ?_
    refine aw_region ?_
    refine awl_runp 2 [5] [10] (ob := (True ∧ True ∧ True)) (st' := (⟨38, [(5, [], .v (.c (.own 10)))], [(10, [], .arr 39 (.int .u32) out)]⟩ : St)) (by kernel_rfl) ⟨trivial, trivial, trivial⟩ ?_
    refine awl_nil ?_
    refine thenQ_n ?_
    refine aw_ret ?_
    exact ⟨10, _, by kernel_rfl, by kernel_rfl, h⟩
  · refine aw_block ?_
    refine aw_loop (σ := Int × (List Int)) (fun s => (⟨38, [(0, [], .v (.c (.p (.sl (.int .u32)) a))), (1, [], .v (.c (.p (.sl (.int .u32)) b))), (2, [], .v (.c (.ad (.int .i64) a2))), (6, [], .v (.c (.own 10))), (11, [], .v (.c (.p (.int .i64) a2))), (12, [], .v (.c (.p (.int .i64) s.1)))], [(10, [], .arr 39 (.int .u32) s.2)]⟩ : St)) (fun s X => VC86_l1 a b a2 K s.1 s.2 X) (s0 := ((0 : Int), (List.replicate (a2).toNat (0 : Int)))) (fun s X1 h => ?_) h
    obtain ⟨v12, out⟩ := s
    have h : VC86_l1 a b a2 K v12 out X1 := h
    unfold VC86_l1 at h
    refine aw_seq ?_
    refine aw_region ?_
    refine awl_runp 1 [0, 1, 2, 6, 11, 12, 13] [10] (ob := (True ∧ True)) (st' := (⟨38, [(0, [], .v (.c (.p (.sl (.int .u32)) a))), (1, [], .v (.c (.p (.sl (.int .u32)) b))), (2, [], .v (.c (.ad (.int .i64) a2))), (6, [], .v (.c (.own 10))), (11, [], .v (.c (.p (.int .i64) a2))), (12, [], .v (.c (.p (.int .i64) v12))), (13, [], .v (.c (.p .bool (decide (v12 < a2)))))], [(10, [], .arr 39 (.int .u32) out)]⟩ : St)) (by kernel_rfl) ⟨trivial, trivial⟩ ?_
    refine awl_nil ?_
    refine thenQ_n ?_
    refine aw_seq ?_
    refine aw_cond (b := (decide (v12 < a2))) (by kernel_rfl) (fun hb => ?_) (fun hb => ?_)
    · have h := h.1 hb
      refine aw_skip ?_
      refine thenQ_n ?_
      refine aw_seq ?_
      refine aw_block ?_
      refine aw_seq ?_
      refine aw_region ?_
      refine awl_runp 2 [0, 1, 2, 6, 7, 11, 12] [10] (ob := (True ∧ True ∧ True)) (st' := (⟨38, [(0, [], .v (.c (.p (.sl (.int .u32)) a))), (1, [], .v (.c (.p (.sl (.int .u32)) b))), (2, [], .v (.c (.ad (.int .i64) a2))), (6, [], .v (.c (.own 10))), (7, [], .v (.c (.p (.int .i64) v12))), (11, [], .v (.c (.p (.int .i64) a2))), (12, [], .v (.c (.p (.int .i64) v12)))], [(10, [], .arr 39 (.int .u32) out)]⟩ : St)) (by kernel_rfl) ⟨trivial, trivial, trivial⟩ ?_
      refine awl_nil ?_
      refine thenQ_n ?_
      refine aw_seq ?_
      refine aw_region ?_
      refine awl_runp 2 [0, 1, 2, 6, 7, 11, 12, 15, 16] [10] (ob := (True ∧ True ∧ True)) (st' := (⟨38, [(0, [], .v (.c (.p (.sl (.int .u32)) a))), (1, [], .v (.c (.p (.sl (.int .u32)) b))), (2, [], .v (.c (.ad (.int .i64) a2))), (6, [], .v (.c (.own 10))), (7, [], .v (.c (.p (.int .i64) v12))), (11, [], .v (.c (.p (.int .i64) a2))), (12, [], .v (.c (.p (.int .i64) v12))), (15, [], .v (.c (.p (.int .i64) a2))), (16, [], .v (.c (.p (.int .i64) (0 : Int))))], [(10, [], .arr 39 (.int .u32) out)]⟩ : St)) (by kernel_rfl) ⟨trivial, trivial, trivial⟩ ?_
      refine awl_nil ?_
      refine thenQ_n ?_
      refine withJoin (σ := (List Int)) (fun s => (⟨38, [(0, [], .v (.c (.p (.sl (.int .u32)) a))), (1, [], .v (.c (.p (.sl (.int .u32)) b))), (2, [], .v (.c (.ad (.int .i64) a2))), (6, [], .v (.c (.own 10))), (11, [], .v (.c (.p (.int .i64) a2))), (12, [], .v (.c (.p (.int .i64) v12)))], [(10, [], .arr 39 (.int .u32) s)]⟩ : St)) (fun s => VC86_k2 v12 X1 s) (fun out2 h => ?_) (fun rest2 => ?_)
      · have h : VC86_k2 v12 X1 out2 := h
        unfold VC86_k2 at h
        refine blockQ_n ?_
        refine thenQ_n ?_
        refine aw_region ?_
        obtain ⟨o1, h⟩ := h
        refine awl_runp 2 [0, 1, 2, 6, 11, 12] [10] (ob := (InR (v12 + (1 : Int)) ∧ True ∧ True)) (st' := (⟨38, [(0, [], .v (.c (.p (.sl (.int .u32)) a))), (1, [], .v (.c (.p (.sl (.int .u32)) b))), (2, [], .v (.c (.ad (.int .i64) a2))), (6, [], .v (.c (.own 10))), (11, [], .v (.c (.p (.int .i64) a2))), (12, [], .v (.c (.p (.int .i64) (v12 + (1 : Int)))))], [(10, [], .arr 39 (.int .u32) out2)]⟩ : St)) (by kernel_rfl) ⟨o1, trivial, trivial⟩ ?_
        refine awl_nil ?_
        exact thenQ_n ⟨((v12 + (1 : Int)), out2), rfl, h⟩
      · refine aw_block ?_
        refine aw_loop (σ := Int × (List Int)) (fun s => (⟨38, [(0, [], .v (.c (.p (.sl (.int .u32)) a))), (1, [], .v (.c (.p (.sl (.int .u32)) b))), (2, [], .v (.c (.ad (.int .i64) a2))), (6, [], .v (.c (.own 10))), (7, [], .v (.c (.p (.int .i64) v12))), (11, [], .v (.c (.p (.int .i64) a2))), (12, [], .v (.c (.p (.int .i64) v12))), (15, [], .v (.c (.p (.int .i64) a2))), (16, [], .v (.c (.p (.int .i64) s.1)))], [(10, [], .arr 39 (.int .u32) s.2)]⟩ : St)) (fun s X => VC86_l2 a b a2 v12 X1 s.1 s.2 X) (s0 := ((0 : Int), out)) (fun s X2 h => ?_) h
        obtain ⟨v16, out2⟩ := s
        have h : VC86_l2 a b a2 v12 X1 v16 out2 X2 := h
        unfold VC86_l2 at h
        refine aw_seq ?_
        refine aw_region ?_
        refine awl_runp 1 [0, 1, 2, 6, 7, 11, 12, 15, 16, 17] [10] (ob := (True ∧ True)) (st' := (⟨38, [(0, [], .v (.c (.p (.sl (.int .u32)) a))), (1, [], .v (.c (.p (.sl (.int .u32)) b))), (2, [], .v (.c (.ad (.int .i64) a2))), (6, [], .v (.c (.own 10))), (7, [], .v (.c (.p (.int .i64) v12))), (11, [], .v (.c (.p (.int .i64) a2))), (12, [], .v (.c (.p (.int .i64) v12))), (15, [], .v (.c (.p (.int .i64) a2))), (16, [], .v (.c (.p (.int .i64) v16))), (17, [], .v (.c (.p .bool (decide (v16 < a2)))))], [(10, [], .arr 39 (.int .u32) out2)]⟩ : St)) (by kernel_rfl) ⟨trivial, trivial⟩ ?_
        refine awl_nil ?_
        refine thenQ_n ?_
        refine aw_seq ?_
        refine aw_cond (b := (decide (v16 < a2))) (by kernel_rfl) (fun hb => ?_) (fun hb => ?_)
        · have h := h.1 hb
          refine aw_skip ?_
          refine thenQ_n ?_
          refine aw_seq ?_
          refine aw_block ?_
          refine aw_seq ?_
          refine aw_region ?_
          refine awl_runp 2 [0, 1, 2, 6, 7, 8, 11, 12, 15, 16] [10] (ob := (True ∧ True ∧ True)) (st' := (⟨38, [(0, [], .v (.c (.p (.sl (.int .u32)) a))), (1, [], .v (.c (.p (.sl (.int .u32)) b))), (2, [], .v (.c (.ad (.int .i64) a2))), (6, [], .v (.c (.own 10))), (7, [], .v (.c (.p (.int .i64) v12))), (8, [], .v (.c (.p (.int .i64) v16))), (11, [], .v (.c (.p (.int .i64) a2))), (12, [], .v (.c (.p (.int .i64) v12))), (15, [], .v (.c (.p (.int .i64) a2))), (16, [], .v (.c (.p (.int .i64) v16)))], [(10, [], .arr 39 (.int .u32) out2)]⟩ : St)) (by kernel_rfl) ⟨trivial, trivial, trivial⟩ ?_
          refine awl_nil ?_
          refine thenQ_n ?_
          refine aw_seq ?_
          refine aw_region ?_
          obtain ⟨o1, h⟩ := h
          refine awl_runp 5 [0, 1, 2, 6, 7, 8, 11, 12, 15, 16, 22, 23] [10] (ob := (True ∧ True ∧ inIdx v12 a.length ∧ True ∧ True ∧ True)) (st' := (⟨38, [(0, [], .v (.c (.p (.sl (.int .u32)) a))), (1, [], .v (.c (.p (.sl (.int .u32)) b))), (2, [], .v (.c (.ad (.int .i64) a2))), (6, [], .v (.c (.own 10))), (7, [], .v (.c (.p (.int .i64) v12))), (8, [], .v (.c (.p (.int .i64) v16))), (11, [], .v (.c (.p (.int .i64) a2))), (12, [], .v (.c (.p (.int .i64) v12))), (15, [], .v (.c (.p (.int .i64) a2))), (16, [], .v (.c (.p (.int .i64) v16))), (22, [], .v (.c (.p (.int .u32) (a.getD (v12).toNat (0 : Int))))), (23, [], .v (.c (.p (.int .i64) v16)))], [(10, [], .arr 39 (.int .u32) out2)]⟩ : St)) (by kernel_rfl) ⟨trivial, trivial, o1, trivial, trivial, trivial⟩ ?_
          refine awl_callk (p := []) (l := [toV1 (.int .u32) (a.getD (v12).toNat (0 : Int)), toV1 (.int .i64) v16]) (cl := []) false [.d (.int .u32), .d (.int .i64)] [0, 1, 2, 6, 7, 8, 11, 12, 15, 16, 24] [10] (fun (ret24v : Bool) => ((ret24v = true → (inIdx v12 out2.length ∧ inIdx v16 b.length ∧ (inIdx v12 out2.length ∧ VC86_k3 v16 X2 (out2.set ((v12).toNat) (bOr .u32 (out2.getD ((v12).toNat) (0 : Int)) (b.getD (v16).toNat (0 : Int))))))) ∧ (ret24v = false → VC86_k3 v16 X2 out2))) (fun ret24v => [toV1 .bool ret24v]) (fun ret24v => (⟨38, [(0, [], .v (.c (.p (.sl (.int .u32)) a))), (1, [], .v (.c (.p (.sl (.int .u32)) b))), (2, [], .v (.c (.ad (.int .i64) a2))), (6, [], .v (.c (.own 10))), (7, [], .v (.c (.p (.int .i64) v12))), (8, [], .v (.c (.p (.int .i64) v16))), (11, [], .v (.c (.p (.int .i64) a2))), (12, [], .v (.c (.p (.int .i64) v12))), (15, [], .v (.c (.p (.int .i64) a2))), (16, [], .v (.c (.p (.int .i64) v16))), (24, [], .v (.c (.p .bool ret24v)))], [(10, [], .arr 39 (.int .u32) out2)]⟩ : St)) (by kernel_rfl) rfl (by kernel_rfl) rfl (by kernel_rfl) Try.call44 (by kernel_rfl) (fun ret24v => by kernel_rfl) (fun e => by cases e) (fun hg => link44 (a.getD (v12).toNat (0 : Int)) v16 _ h) (fun hg => noF hg) (fun ret24v h => ?_)
          have h : ((ret24v = true → (inIdx v12 out2.length ∧ inIdx v16 b.length ∧ (inIdx v12 out2.length ∧ VC86_k3 v16 X2 (out2.set ((v12).toNat) (bOr .u32 (out2.getD ((v12).toNat) (0 : Int)) (b.getD (v16).toNat (0 : Int))))))) ∧ (ret24v = false → VC86_k3 v16 X2 out2)) := h
          refine awl_nil ?_
          refine thenQ_n ?_
          refine withJoin (σ := (List Int)) (fun s => (⟨38, [(0, [], .v (.c (.p (.sl (.int .u32)) a))), (1, [], .v (.c (.p (.sl (.int .u32)) b))), (2, [], .v (.c (.ad (.int .i64) a2))), (6, [], .v (.c (.own 10))), (7, [], .v (.c (.p (.int .i64) v12))), (11, [], .v (.c (.p (.int .i64) a2))), (12, [], .v (.c (.p (.int .i64) v12))), (15, [], .v (.c (.p (.int .i64) a2))), (16, [], .v (.c (.p (.int .i64) v16)))], [(10, [], .arr 39 (.int .u32) s)]⟩ : St)) (fun s => VC86_k3 v16 X2 s) (fun out3 h => ?_) (fun rest3 => ?_)
          · have h : VC86_k3 v16 X2 out3 := h
            unfold VC86_k3 at h
            refine blockQ_n ?_
            refine thenQ_n ?_
            refine aw_region ?_
            obtain ⟨o1, h⟩ := h
            refine awl_runp 2 [0, 1, 2, 6, 7, 11, 12, 15, 16] [10] (ob := (InR (v16 + (1 : Int)) ∧ True ∧ True)) (st' := (⟨38, [(0, [], .v (.c (.p (.sl (.int .u32)) a))), (1, [], .v (.c (.p (.sl (.int .u32)) b))), (2, [], .v (.c (.ad (.int .i64) a2))), (6, [], .v (.c (.own 10))), (7, [], .v (.c (.p (.int .i64) v12))), (11, [], .v (.c (.p (.int .i64) a2))), (12, [], .v (.c (.p (.int .i64) v12))), (15, [], .v (.c (.p (.int .i64) a2))), (16, [], .v (.c (.p (.int .i64) (v16 + (1 : Int)))))], [(10, [], .arr 39 (.int .u32) out3)]⟩ : St)) (by kernel_rfl) ⟨o1, trivial, trivial⟩ ?_
            refine awl_nil ?_
            exact thenQ_n ⟨((v16 + (1 : Int)), out3), rfl, h⟩
          · refine aw_cond (b := ret24v) (by kernel_rfl) (fun hb => ?_) (fun hb => ?_)
            · have h := h.1 hb
              refine awd_begin [10] (by kernel_rfl) ?_
              obtain ⟨o1, o2, h⟩ := h
              refine awd_runp (by kernel_rfl) [0, 1, 2, 4, 5, 6, 7] [0, 1, 2, 6, 7, 11, 12, 15, 16, 25, 26, 27, 32] [10] (ob := (True ∧ True ∧ inIdx v12 out2.length ∧ True ∧ True ∧ inIdx v16 b.length ∧ True ∧ True)) (done' := [7, 6, 5, 4, 2, 1, 0]) (st' := (⟨38, [(0, [], .v (.c (.p (.sl (.int .u32)) a))), (1, [], .v (.c (.p (.sl (.int .u32)) b))), (2, [], .v (.c (.ad (.int .i64) a2))), (6, [], .v (.c (.own 10))), (7, [], .v (.c (.p (.int .i64) v12))), (11, [], .v (.c (.p (.int .i64) a2))), (12, [], .v (.c (.p (.int .i64) v12))), (15, [], .v (.c (.p (.int .i64) a2))), (16, [], .v (.c (.p (.int .i64) v16))), (25, [], .v (.c (.own 10))), (26, [], .v (.c (.p (.int .i64) v12))), (27, [], .v (.c (.el 10 ((v12).toNat) 1))), (32, [], .v (.c (.p (.int .u32) (b.getD (v16).toNat (0 : Int)))))], [(10, [], .arr 39 (.int .u32) out2)]⟩ : St)) (by kernel_rfl) ⟨trivial, trivial, o1, trivial, trivial, o2, trivial, trivial⟩ ?_
              refine awd_one (i := 3) (by kernel_rfl) ?_
              refine adop_stepp [0, 1, 2, 6, 7, 11, 12, 15, 16, 25, 26, 28, 32] [10] (ob := True) (st' := (⟨38, [(0, [], .v (.c (.p (.sl (.int .u32)) a))), (1, [], .v (.c (.p (.sl (.int .u32)) b))), (2, [], .v (.c (.ad (.int .i64) a2))), (6, [], .v (.c (.own 10))), (7, [], .v (.c (.p (.int .i64) v12))), (11, [], .v (.c (.p (.int .i64) a2))), (12, [], .v (.c (.p (.int .i64) v12))), (15, [], .v (.c (.p (.int .i64) a2))), (16, [], .v (.c (.p (.int .i64) v16))), (25, [], .v (.c (.own 10))), (26, [], .v (.c (.p (.int .i64) v12))), (28, [], .v (.c (.p (.int .u32) (out2.getD ((v12).toNat) (0 : Int))))), (32, [], .v (.c (.p (.int .u32) (b.getD (v16).toNat (0 : Int)))))], [(10, [], .arr 39 (.int .u32) out2)]⟩ : St)) rfl (by kernel_rfl) trivial ?_
              obtain ⟨o1, h⟩ := h
              refine awd_runp (by kernel_rfl) [8, 9] [0, 1, 2, 6, 7, 11, 12, 15, 16, 33, 34] [10] (ob := (True ∧ inIdx v12 out2.length ∧ True)) (done' := [9, 8, 3, 7, 6, 5, 4, 2, 1, 0]) (st' := (⟨38, [(0, [], .v (.c (.p (.sl (.int .u32)) a))), (1, [], .v (.c (.p (.sl (.int .u32)) b))), (2, [], .v (.c (.ad (.int .i64) a2))), (6, [], .v (.c (.own 10))), (7, [], .v (.c (.p (.int .i64) v12))), (11, [], .v (.c (.p (.int .i64) a2))), (12, [], .v (.c (.p (.int .i64) v12))), (15, [], .v (.c (.p (.int .i64) a2))), (16, [], .v (.c (.p (.int .i64) v16))), (33, [], .v (.c (.p (.int .u32) (bOr .u32 (out2.getD ((v12).toNat) (0 : Int)) (b.getD (v16).toNat (0 : Int)))))), (34, [], .v (.c (.el 10 ((v12).toNat) 1)))], [(10, [], .arr 39 (.int .u32) out2)]⟩ : St)) (by kernel_rfl) ⟨trivial, o1, trivial⟩ ?_
              refine awd_one (i := 10) (by kernel_rfl) ?_
              refine adop_stepp [0, 1, 2, 6, 7, 11, 12, 15, 16] [10] (ob := True) (st' := (⟨38, [(0, [], .v (.c (.p (.sl (.int .u32)) a))), (1, [], .v (.c (.p (.sl (.int .u32)) b))), (2, [], .v (.c (.ad (.int .i64) a2))), (6, [], .v (.c (.own 10))), (7, [], .v (.c (.p (.int .i64) v12))), (11, [], .v (.c (.p (.int .i64) a2))), (12, [], .v (.c (.p (.int .i64) v12))), (15, [], .v (.c (.p (.int .i64) a2))), (16, [], .v (.c (.p (.int .i64) v16)))], [(10, [], .arr 39 (.int .u32) (out2.set ((v12).toNat) (bOr .u32 (out2.getD ((v12).toNat) (0 : Int)) (b.getD (v16).toNat (0 : Int)))))]⟩ : St)) rfl (by kernel_rfl) trivial ?_
              refine awd_done (by kernel_rfl) ?_
              exact rest3 (out2.set ((v12).toNat) (bOr .u32 (out2.getD ((v12).toNat) (0 : Int)) (b.getD (v16).toNat (0 : Int)))) h
            · have h := h.2 hb
              refine aw_conv [.prune [0, 1, 2, 6, 7, 11, 12, 15, 16] [10]] (st' := (⟨38, [(0, [], .v (.c (.p (.sl (.int .u32)) a))), (1, [], .v (.c (.p (.sl (.int .u32)) b))), (2, [], .v (.c (.ad (.int .i64) a2))), (6, [], .v (.c (.own 10))), (7, [], .v (.c (.p (.int .i64) v12))), (11, [], .v (.c (.p (.int .i64) a2))), (12, [], .v (.c (.p (.int .i64) v12))), (15, [], .v (.c (.p (.int .i64) a2))), (16, [], .v (.c (.p (.int .i64) v16)))], [(10, [], .arr 39 (.int .u32) out2)]⟩ : St)) (by kernel_rfl) ?_
              refine aw_skip ?_
              exact rest3 out2 h
        · have h := h.2 hb
          refine aw_conv [.prune [0, 1, 2, 6, 11, 12] [10]] (st' := (⟨38, [(0, [], .v (.c (.p (.sl (.int .u32)) a))), (1, [], .v (.c (.p (.sl (.int .u32)) b))), (2, [], .v (.c (.ad (.int .i64) a2))), (6, [], .v (.c (.own 10))), (11, [], .v (.c (.p (.int .i64) a2))), (12, [], .v (.c (.p (.int .i64) v12)))], [(10, [], .arr 39 (.int .u32) out2)]⟩ : St)) (by kernel_rfl) ?_
          refine aw_exit ?_
          refine thenQ_x ?_
          refine thenQ_x ?_
          refine blockQ_hit ?_
          exact rest2 out2 h
    · have h := h.2 hb
      refine aw_conv [.prune [6] [10]] (st' := (⟨38, [(6, [], .v (.c (.own 10)))], [(10, [], .arr 39 (.int .u32) out)]⟩ : St)) (by kernel_rfl) ?_
      refine aw_exit ?_
      refine thenQ_x ?_
      refine thenQ_x ?_
      refine blockQ_hit ?_
      exact rest1 out h

-- coppicer/sentence.match
def VC46_k1 (K : (List Int) → Prop) (all : (List (List Int))) : Prop :=
  (InR ((all.length : Int) - (1 : Int)) ∧ inIdx ((all.length : Int) - (1 : Int)) all.length ∧ K (all.getD ((((all.length : Int) - (1 : Int))).toNat) ([] : (List Int))))

def VC46_k2 (v24 : Int) (all : (List (List Int))) (X1 : Int × (List (List Int)) → Prop) (rv : (List Int)) : Prop :=
  (roomN (all.length + [rv].length) ∧ (InR (v24 + (1 : Int)) ∧ X1 ((v24 + (1 : Int)), (all ++ [rv]))))

def VC46_k3 (v24 : Int) (all : (List (List Int))) (X1 : Int × (List (List Int)) → Prop) (rv : (List Int)) : Prop :=
  VC46_k2 v24 all X1 rv

def VC46_l2 (w : (List Int)) (v24 : Int) (all : (List (List Int))) (X1 : Int × (List (List Int)) → Prop) (v35 : Int) (rv : (List Int)) (X2 : Int × (List Int) → Prop) : Prop :=
  (((decide (v35 < ((w.length : Int) + (1 : Int)))) = true → (0 ≤ v35 ∧ inIdx v35 rv.length ∧ (InR (v35 + (1 : Int)) ∧ X2 ((v35 + (1 : Int)), (rv.set ((v35).toNat) (bShl .u32 (1 : Int) v35)))))) ∧ ((decide (v35 < ((w.length : Int) + (1 : Int)))) = false → VC46_k3 v24 all X1 rv))

def VC46_k4 (v24 : Int) (all : (List (List Int))) (X1 : Int × (List (List Int)) → Prop) (rv : (List Int)) : Prop :=
  VC46_k2 v24 all X1 rv

def VC46_k5 (v24 : Int) (all : (List (List Int))) (X1 : Int × (List (List Int)) → Prop) (rv : (List Int)) : Prop :=
  VC46_k4 v24 all X1 rv

def VC46_k6 (v48 : Int) (X3 : Int × (List Int) → Prop) (rv2 : (List Int)) : Prop :=
  (InR (v48 + (1 : Int)) ∧ X3 ((v48 + (1 : Int)), rv2))

def VC46_l3 (l : (List (Int × (Int × Int)))) (w : (List Int)) (v24 : Int) (all : (List (List Int))) (X1 : Int × (List (List Int)) → Prop) (v48 : Int) (rv : (List Int)) (X3 : Int × (List Int) → Prop) : Prop :=
  (((decide (v48 < (w.length : Int))) = true → (inIdx v48 w.length ∧ (((decide ((w.getD (v48).toNat (0 : Int)) = (l.getD (v24).toNat ((0 : Int), ((0 : Int), (0 : Int)))).2.1)) = true → (InR (v48 + (1 : Int)) ∧ 0 ≤ (v48 + (1 : Int)) ∧ inIdx v48 rv.length ∧ VC46_k6 v48 X3 (rv.set ((v48).toNat) (bShl .u32 (1 : Int) (v48 + (1 : Int)))))) ∧ ((decide ((w.getD (v48).toNat (0 : Int)) = (l.getD (v24).toNat ((0 : Int), ((0 : Int), (0 : Int)))).2.1)) = false → VC46_k6 v48 X3 rv)))) ∧ ((decide (v48 < (w.length : Int))) = false → VC46_k5 v24 all X1 rv))

def VC46_k7 (v24 : Int) (all : (List (List Int))) (X1 : Int × (List (List Int)) → Prop) (rv : (List Int)) : Prop :=
  VC46_k4 v24 all X1 rv

def VC46_k8 (v24 : Int) (all : (List (List Int))) (X1 : Int × (List (List Int)) → Prop) (rv : (List Int)) : Prop :=
  VC46_k7 v24 all X1 rv

def VC46_k9 (v24 : Int) (all : (List (List Int))) (X1 : Int × (List (List Int)) → Prop) (rv : (List Int)) : Prop :=
  VC46_k8 v24 all X1 rv

def VC46_l4 (l : (List (Int × (Int × Int)))) (w : (List Int)) (v24 : Int) (all : (List (List Int))) (X1 : Int × (List (List Int)) → Prop) (v81 : Int) (rv : (List Int)) (X4 : Int × (List Int) → Prop) : Prop :=
  (((decide (v81 < ((w.length : Int) + (1 : Int)))) = true → (inIdx ((l.getD (v24).toNat ((0 : Int), ((0 : Int), (0 : Int)))).2.1) all.length ∧ inIdx v81 (all.getD (((l.getD (v24).toNat ((0 : Int), ((0 : Int), (0 : Int)))).2.1).toNat) ([] : (List Int))).length ∧ inIdx ((l.getD (v24).toNat ((0 : Int), ((0 : Int), (0 : Int)))).2.2) all.length ∧ inIdx v81 (all.getD (((l.getD (v24).toNat ((0 : Int), ((0 : Int), (0 : Int)))).2.2).toNat) ([] : (List Int))).length ∧ inIdx v81 rv.length ∧ (InR (v81 + (1 : Int)) ∧ X4 ((v81 + (1 : Int)), (rv.set ((v81).toNat) (bOr .u32 ((all.getD (((l.getD (v24).toNat ((0 : Int), ((0 : Int), (0 : Int)))).2.1).toNat) ([] : (List Int))).getD (v81).toNat (0 : Int)) ((all.getD (((l.getD (v24).toNat ((0 : Int), ((0 : Int), (0 : Int)))).2.2).toNat) ([] : (List Int))).getD (v81).toNat (0 : Int)))))))) ∧ ((decide (v81 < ((w.length : Int) + (1 : Int)))) = false → VC46_k9 v24 all X1 rv))

def VC46_k10 (v24 : Int) (all : (List (List Int))) (X1 : Int × (List (List Int)) → Prop) (rv : (List Int)) : Prop :=
  VC46_k8 v24 all X1 rv

def VC46_k12 (v24 : Int) (all : (List (List Int))) (X1 : Int × (List (List Int)) → Prop) (rv2 : (List Int)) : Prop :=
  VC46_k10 v24 all X1 rv2

def VC46_k13 (v118 : Int) (X5 : Int × (List Int) → Prop) (rv3 : (List Int)) : Prop :=
  (InR (v118 + (1 : Int)) ∧ X5 ((v118 + (1 : Int)), rv3))

def VC46_l6 (w : (List Int)) (v118 : Int) (X5 : Int × (List Int) → Prop) (ret127v : (List Int)) (v129 : Int) (rv3 : (List Int)) (X6 : Int × (List Int) → Prop) : Prop :=
  (((decide (v129 < ((w.length : Int) + (1 : Int)))) = true → (inIdx v129 rv3.length ∧ inIdx v129 ret127v.length ∧ (inIdx v129 rv3.length ∧ (InR (v129 + (1 : Int)) ∧ X6 ((v129 + (1 : Int)), (rv3.set ((v129).toNat) (bOr .u32 (rv3.getD ((v129).toNat) (0 : Int)) (ret127v.getD ((v129).toNat) (0 : Int))))))))) ∧ ((decide (v129 < ((w.length : Int) + (1 : Int)))) = false → VC46_k13 v118 X5 rv3))

def VC46_l5 (l : (List (Int × (Int × Int)))) (w : (List Int)) (v24 : Int) (all : (List (List Int))) (X1 : Int × (List (List Int)) → Prop) (v118 : Int) (rv2 : (List Int)) (X5 : Int × (List Int) → Prop) : Prop :=
  (((decide (v118 < ((w.length : Int) + (1 : Int)))) = true → (inIdx ((l.getD (v24).toNat ((0 : Int), ((0 : Int), (0 : Int)))).2.1) all.length ∧ VC86 rv2 (all.getD (((l.getD (v24).toNat ((0 : Int), ((0 : Int), (0 : Int)))).2.1).toNat) ([] : (List Int))) ((w.length : Int) + (1 : Int)) (fun (ret127v : (List Int)) => Loop (σ := Int × (List Int)) (fun s X => VC46_l6 w v118 X5 ret127v s.1 s.2 X) ((0 : Int), rv2)))) ∧ ((decide (v118 < ((w.length : Int) + (1 : Int)))) = false → VC46_k12 v24 all X1 rv2))

def VC46_k11 (l : (List (Int × (Int × Int)))) (w : (List Int)) (v24 : Int) (all : (List (List Int))) (X1 : Int × (List (List Int)) → Prop) (rv : (List Int)) : Prop :=
  Loop (σ := Int × (List Int)) (fun s X => VC46_l5 l w v24 all X1 s.1 s.2 X) ((0 : Int), rv)

def VC46_l7 (l : (List (Int × (Int × Int)))) (w : (List Int)) (v24 : Int) (all : (List (List Int))) (X1 : Int × (List (List Int)) → Prop) (v108 : Int) (rv : (List Int)) (X7 : Int × (List Int) → Prop) : Prop :=
  (((decide (v108 < ((w.length : Int) + (1 : Int)))) = true → (0 ≤ v108 ∧ inIdx v108 rv.length ∧ (InR (v108 + (1 : Int)) ∧ X7 ((v108 + (1 : Int)), (rv.set ((v108).toNat) (bShl .u32 (1 : Int) v108)))))) ∧ ((decide (v108 < ((w.length : Int) + (1 : Int)))) = false → VC46_k11 l w v24 all X1 rv))

def VC46_l1 (l : (List (Int × (Int × Int)))) (w : (List Int)) (K : (List Int) → Prop) (v24 : Int) (all : (List (List Int))) (X1 : Int × (List (List Int)) → Prop) : Prop :=
  (((decide (v24 < (l.length : Int))) = true → (inIdx v24 l.length ∧ (room ((w.length : Int) + (1 : Int)) ∧ (((decide ((l.getD (v24).toNat ((0 : Int), ((0 : Int), (0 : Int)))).1 = (2 : Int))) = true → Loop (σ := Int × (List Int)) (fun s X => VC46_l2 w v24 all X1 s.1 s.2 X) ((0 : Int), (List.replicate (((w.length : Int) + (1 : Int))).toNat (0 : Int)))) ∧ ((decide ((l.getD (v24).toNat ((0 : Int), ((0 : Int), (0 : Int)))).1 = (2 : Int))) = false → (((decide ((l.getD (v24).toNat ((0 : Int), ((0 : Int), (0 : Int)))).1 = (3 : Int))) = true → Loop (σ := Int × (List Int)) (fun s X => VC46_l3 l w v24 all X1 s.1 s.2 X) ((0 : Int), (List.replicate (((w.length : Int) + (1 : Int))).toNat (0 : Int)))) ∧ ((decide ((l.getD (v24).toNat ((0 : Int), ((0 : Int), (0 : Int)))).1 = (3 : Int))) = false → (((decide ((l.getD (v24).toNat ((0 : Int), ((0 : Int), (0 : Int)))).1 = (4 : Int))) = true → (inIdx ((l.getD (v24).toNat ((0 : Int), ((0 : Int), (0 : Int)))).2.1) all.length ∧ inIdx ((l.getD (v24).toNat ((0 : Int), ((0 : Int), (0 : Int)))).2.2) all.length ∧ VC86 (all.getD (((l.getD (v24).toNat ((0 : Int), ((0 : Int), (0 : Int)))).2.1).toNat) ([] : (List Int))) (all.getD (((l.getD (v24).toNat ((0 : Int), ((0 : Int), (0 : Int)))).2.2).toNat) ([] : (List Int))) ((w.length : Int) + (1 : Int)) (fun (ret77v : (List Int)) => VC46_k7 v24 all X1 ret77v))) ∧ ((decide ((l.getD (v24).toNat ((0 : Int), ((0 : Int), (0 : Int)))).1 = (4 : Int))) = false → (((decide ((l.getD (v24).toNat ((0 : Int), ((0 : Int), (0 : Int)))).1 = (5 : Int))) = true → Loop (σ := Int × (List Int)) (fun s X => VC46_l4 l w v24 all X1 s.1 s.2 X) ((0 : Int), (List.replicate (((w.length : Int) + (1 : Int))).toNat (0 : Int)))) ∧ ((decide ((l.getD (v24).toNat ((0 : Int), ((0 : Int), (0 : Int)))).1 = (5 : Int))) = false → (((decide ((l.getD (v24).toNat ((0 : Int), ((0 : Int), (0 : Int)))).1 = (6 : Int))) = true → Loop (σ := Int × (List Int)) (fun s X => VC46_l7 l w v24 all X1 s.1 s.2 X) ((0 : Int), (List.replicate (((w.length : Int) + (1 : Int))).toNat (0 : Int)))) ∧ ((decide ((l.getD (v24).toNat ((0 : Int), ((0 : Int), (0 : Int)))).1 = (6 : Int))) = false → VC46_k10 v24 all X1 (List.replicate (((w.length : Int) + (1 : Int))).toNat (0 : Int))))))))))))))) ∧ ((decide (v24 < (l.length : Int))) = false → VC46_k1 K all))

def VC46 (l : (List (Int × (Int × Int)))) (w : (List Int)) (K : (List Int) → Prop) : Prop :=
  (InR ((w.length : Int) + (1 : Int)) ∧ Loop (σ := Int × (List (List Int))) (fun s X => VC46_l1 l w K s.1 s.2 X) ((0 : Int), ([] : List (List Int))))

set_option maxHeartbeats 4000000 in
theorem link46 (l : (List (Int × (Int × Int)))) (w : (List Int)) (K : (List Int) → Prop) (h : VC46 l w K) : ACalls Try.prog 46 [toV1 (.sl (.pr (.int .i64) (.pr (.int .i64) (.int .i64)))) l, toV1 (.sl (.int .i64)) w] (fun res => ∃ y, res = (fun y => [toV1 (.sl (.int .u32)) y]) y ∧ K y) := by
  refine acalls_of_aw [(.sl (.int .u32))] [.t 4] Try.func46 rfl rfl rfl ?_
  unfold VC46 at h
  refine aw_seq ?_
  refine aw_region ?_
  refine awl_runp 1 [0, 1] [] (ob := (True ∧ True)) (st' := (⟨155, [(0, [], .v (.c (.p (.sl (.pr (.int .i64) (.pr (.int .i64) (.int .i64)))) l))), (1, [], .v (.c (.p (.sl (.int .i64)) w)))], []⟩ : St)) (by kernel_rfl) ⟨trivial, trivial⟩ ?_
  refine awl_nil ?_
  refine thenQ_n ?_
  refine aw_seq ?_
  refine aw_region ?_
  obtain ⟨o1, h⟩ := h
  refine awl_runp 5 [0, 1, 5] [5] (ob := (True ∧ True ∧ InR ((w.length : Int) + (1 : Int)) ∧ True ∧ True ∧ True)) (st' := (⟨155, [(0, [], .v (.c (.p (.sl (.pr (.int .i64) (.pr (.int .i64) (.int .i64)))) l))), (1, [], .v (.c (.p (.sl (.int .i64)) w))), (5, [], .v (.c (.ptr 5 0)))], [(5, [], .box [.p (.int .i64) ((w.length : Int) + (1 : Int))])]⟩ : St)) (by kernel_rfl) ⟨trivial, trivial, o1, trivial, trivial, trivial⟩ ?_
  refine awl_nil ?_
  refine thenQ_n ?_
  refine aw_seq ?_
  refine aw_region ?_
  refine awl_conv [.freezeB 5 (.int .i64)] (st' := (⟨155, [(0, [], .v (.c (.p (.sl (.pr (.int .i64) (.pr (.int .i64) (.int .i64)))) l))), (1, [], .v (.c (.p (.sl (.int .i64)) w))), (5, [], .v (.c (.ad (.int .i64) ((w.length : Int) + (1 : Int)))))], []⟩ : St)) (by kernel_rfl) ?_
  refine awl_runp 2 [0, 1, 5, 6] [] (ob := (True ∧ True ∧ True)) (st' := (⟨155, [(0, [], .v (.c (.p (.sl (.pr (.int .i64) (.pr (.int .i64) (.int .i64)))) l))), (1, [], .v (.c (.p (.sl (.int .i64)) w))), (5, [], .v (.c (.ad (.int .i64) ((w.length : Int) + (1 : Int))))), (6, [], .v (.c (.fn 86 [(⟨(.int .i64), ((w.length : Int) + (1 : Int))⟩ : Dat)])))], []⟩ : St)) (by kernel_rfl) ⟨trivial, trivial, trivial⟩ ?_
  refine awl_nil ?_
  refine thenQ_n ?_
  refine aw_seq ?_
  refine aw_region ?_
  refine awl_runp 1 [0, 1, 5, 6, 7] [] (ob := (True ∧ True)) (st' := (⟨155, [(0, [], .v (.c (.p (.sl (.pr (.int .i64) (.pr (.int .i64) (.int .i64)))) l))), (1, [], .v (.c (.p (.sl (.int .i64)) w))), (5, [], .v (.c (.ad (.int .i64) ((w.length : Int) + (1 : Int))))), (6, [], .v (.c (.fn 86 [(⟨(.int .i64), ((w.length : Int) + (1 : Int))⟩ : Dat)]))), (7, [], .v (.c (.nils)))], []⟩ : St)) (by kernel_rfl) ⟨trivial, trivial⟩ ?_
  refine awl_nil ?_
  refine thenQ_n ?_
  refine aw_seq ?_
  refine aw_seq ?_
  refine aw_region ?_
  refine awl_runp 3 [1, 5, 6, 7, 22, 23, 24] [] (ob := (True ∧ True ∧ True ∧ True)) (st' := (⟨155, [(1, [], .v (.c (.p (.sl (.int .i64)) w))), (5, [], .v (.c (.ad (.int .i64) ((w.length : Int) + (1 : Int))))), (6, [], .v (.c (.fn 86 [(⟨(.int .i64), ((w.length : Int) + (1 : Int))⟩ : Dat)]))), (7, [], .v (.c (.nils))), (22, [], .v (.c (.p (.sl (.pr (.int .i64) (.pr (.int .i64) (.int .i64)))) l))), (23, [], .v (.c (.p (.int .i64) (l.length : Int)))), (24, [], .v (.c (.p (.int .i64) (0 : Int))))], []⟩ : St)) (by kernel_rfl) ⟨trivial, trivial, trivial, trivial⟩ ?_
  refine awl_nil ?_
  refine thenQ_n ?_
  refine withJoin (σ := (List (List Int))) (fun s => (⟨155, [(7, [], .v (.c (.own 5007)))], [(5007, [], .arr 92 (.sl (.int .u32)) s)]⟩ : St)) (fun s => VC46_k1 K s) (fun all h => ?_) (fun rest1 => ?_)
  · have h : VC46_k1 K all := h
    unfold VC46_k1 at h
    refine thenQ_n ?_
    refine aw_seq ?_
    refine aw_region ?_
    obtain ⟨o1, o2, h⟩ := h
    refine awl_runp 7 [4] [] (ob := (True ∧ True ∧ True ∧ InR ((all.length : Int) - (1 : Int)) ∧ inIdx ((all.length : Int) - (1 : Int)) all.length ∧ True ∧ True ∧ True)) (st' := (⟨155, [(4, [], .v (.c (.p (.sl (.int .u32)) (all.getD ((((all.length : Int) - (1 : Int))).toNat) ([] : (List Int))))))], []⟩ : St)) (by kernel_rfl) ⟨trivial, trivial, trivial, o1, o2, trivial, trivial, trivial⟩ ?_
    refine awl_nil ?_
    refine thenQ_n ?_
    refine aw_ret ?_
    exact retQ_r (σ := (List Int)) (R := (fun y => [toV1 (.sl (.int .u32)) y])) (ob := (True ∧ True)) (all.getD ((((all.length : Int) - (1 : Int))).toNat) ([] : (List Int))) (by kernel_rfl) ⟨trivial, trivial⟩ h
  · refine aw_block ?_
    refine aw_conv [.nilOwn 7 5007 92 (.sl (.int .u32)), .prune [1, 5, 6, 7, 22, 23, 24] [5007]] (st' := (⟨155, [(1, [], .v (.c (.p (.sl (.int .i64)) w))), (5, [], .v (.c (.ad (.int .i64) ((w.length : Int) + (1 : Int))))), (6, [], .v (.c (.fn 86 [(⟨(.int .i64), ((w.length : Int) + (1 : Int))⟩ : Dat)]))), (7, [], .v (.c (.own 5007))), (22, [], .v (.c (.p (.sl (.pr (.int .i64) (.pr (.int .i64) (.int .i64)))) l))), (23, [], .v (.c (.p (.int .i64) (l.length : Int)))), (24, [], .v (.c (.p (.int .i64) (0 : Int))))], [(5007, [], .arr 92 (.sl (.int .u32)) ([] : List (List Int)))]⟩ : St)) (by kernel_rfl) ?_
    refine aw_loop (σ := Int × (List (List Int))) (fun s => (⟨155, [(1, [], .v (.c (.p (.sl (.int .i64)) w))), (5, [], .v (.c (.ad (.int .i64) ((w.length : Int) + (1 : Int))))), (6, [], .v (.c (.fn 86 [(⟨(.int .i64), ((w.length : Int) + (1 : Int))⟩ : Dat)]))), (7, [], .v (.c (.own 5007))), (22, [], .v (.c (.p (.sl (.pr (.int .i64) (.pr (.int .i64) (.int .i64)))) l))), (23, [], .v (.c (.p (.int .i64) (l.length : Int)))), (24, [], .v (.c (.p (.int .i64) s.1)))], [(5007, [], .arr 92 (.sl (.int .u32)) s.2)]⟩ : St)) (fun s X => VC46_l1 l w K s.1 s.2 X) (s0 := ((0 : Int), ([] : List (List Int)))) (fun s X1 h => ?_) h
    obtain ⟨v24, all⟩ := s
    have h : VC46_l1 l w K v24 all X1 := h
    unfold VC46_l1 at h
    refine aw_seq ?_
    refine aw_region ?_
    refine awl_runp 1 [1, 5, 6, 7, 22, 23, 24, 25] [5007] (ob := (True ∧ True)) (st' := (⟨155, [(1, [], .v (.c (.p (.sl (.int .i64)) w))), (5, [], .v (.c (.ad (.int .i64) ((w.length : Int) + (1 : Int))))), (6, [], .v (.c (.fn 86 [(⟨(.int .i64), ((w.length : Int) + (1 : Int))⟩ : Dat)]))), (7, [], .v (.c (.own 5007))), (22, [], .v (.c (.p (.sl (.pr (.int .i64) (.pr (.int .i64) (.int .i64)))) l))), (23, [], .v (.c (.p (.int .i64) (l.length : Int)))), (24, [], .v (.c (.p (.int .i64) v24))), (25, [], .v (.c (.p .bool (decide (v24 < (l.length : Int))))))], [(5007, [], .arr 92 (.sl (.int .u32)) all)]⟩ : St)) (by kernel_rfl) ⟨trivial, trivial⟩ ?_
    refine awl_nil ?_
    refine thenQ_n ?_
    refine aw_seq ?_
    refine aw_cond (b := (decide (v24 < (l.length : Int)))) (by kernel_rfl) (fun hb => ?_) (fun hb => ?_)
    · have h := h.1 hb
      refine aw_skip ?_
      refine thenQ_n ?_
      refine aw_seq ?_
      refine aw_block ?_
      refine aw_seq ?_
      refine aw_region ?_
      obtain ⟨o1, h⟩ := h
      refine awl_runp 4 [1, 5, 6, 7, 9, 22, 23, 24] [9, 5007] (ob := (inIdx v24 l.length ∧ True ∧ True ∧ True ∧ True)) (st' := (⟨155, [(1, [], .v (.c (.p (.sl (.int .i64)) w))), (5, [], .v (.c (.ad (.int .i64) ((w.length : Int) + (1 : Int))))), (6, [], .v (.c (.fn 86 [(⟨(.int .i64), ((w.length : Int) + (1 : Int))⟩ : Dat)]))), (7, [], .v (.c (.own 5007))), (9, [], .v (.c (.ptr 9 0))), (22, [], .v (.c (.p (.sl (.pr (.int .i64) (.pr (.int .i64) (.int .i64)))) l))), (23, [], .v (.c (.p (.int .i64) (l.length : Int)))), (24, [], .v (.c (.p (.int .i64) v24)))], [(9, [], .box [.p (.int .i64) ((l.getD (v24).toNat ((0 : Int), ((0 : Int), (0 : Int)))).1), .p (.int .i64) ((l.getD (v24).toNat ((0 : Int), ((0 : Int), (0 : Int)))).2.1), .p (.int .i64) ((l.getD (v24).toNat ((0 : Int), ((0 : Int), (0 : Int)))).2.2)]), (5007, [], .arr 92 (.sl (.int .u32)) all)]⟩ : St)) (by kernel_rfl) ⟨o1, trivial, trivial, trivial, trivial⟩ ?_
      refine awl_nil ?_
      refine thenQ_n ?_
      refine aw_seq ?_
      refine aw_region ?_
      obtain ⟨o1, h⟩ := h
      refine awl_runp 3 [1, 5, 6, 7, 9, 10, 22, 23, 24] [9, 29, 5007] (ob := (True ∧ room ((w.length : Int) + (1 : Int)) ∧ True ∧ True)) (st' := (⟨155, [(1, [], .v (.c (.p (.sl (.int .i64)) w))), (5, [], .v (.c (.ad (.int .i64) ((w.length : Int) + (1 : Int))))), (6, [], .v (.c (.fn 86 [(⟨(.int .i64), ((w.length : Int) + (1 : Int))⟩ : Dat)]))), (7, [], .v (.c (.own 5007))), (9, [], .v (.c (.ptr 9 0))), (10, [], .v (.c (.own 29))), (22, [], .v (.c (.p (.sl (.pr (.int .i64) (.pr (.int .i64) (.int .i64)))) l))), (23, [], .v (.c (.p (.int .i64) (l.length : Int)))), (24, [], .v (.c (.p (.int .i64) v24)))], [(9, [], .box [.p (.int .i64) ((l.getD (v24).toNat ((0 : Int), ((0 : Int), (0 : Int)))).1), .p (.int .i64) ((l.getD (v24).toNat ((0 : Int), ((0 : Int), (0 : Int)))).2.1), .p (.int .i64) ((l.getD (v24).toNat ((0 : Int), ((0 : Int), (0 : Int)))).2.2)]), (29, [], .arr 39 (.int .u32) (List.replicate (((w.length : Int) + (1 : Int))).toNat (0 : Int))), (5007, [], .arr 92 (.sl (.int .u32)) all)]⟩ : St)) (by kernel_rfl) ⟨trivial, o1, trivial, trivial⟩ ?_
      refine awl_nil ?_
      refine thenQ_n ?_
      refine aw_seq ?_
      refine aw_seq ?_
      refine aw_region ?_
      refine awl_runp 2 [1, 5, 6, 7, 9, 10, 22, 23, 24, 31] [9, 29, 5007] (ob := (True ∧ True ∧ True)) (st' := (⟨155, [(1, [], .v (.c (.p (.sl (.int .i64)) w))), (5, [], .v (.c (.ad (.int .i64) ((w.length : Int) + (1 : Int))))), (6, [], .v (.c (.fn 86 [(⟨(.int .i64), ((w.length : Int) + (1 : Int))⟩ : Dat)]))), (7, [], .v (.c (.own 5007))), (9, [], .v (.c (.ptr 9 0))), (10, [], .v (.c (.own 29))), (22, [], .v (.c (.p (.sl (.pr (.int .i64) (.pr (.int .i64) (.int .i64)))) l))), (23, [], .v (.c (.p (.int .i64) (l.length : Int)))), (24, [], .v (.c (.p (.int .i64) v24))), (31, [], .v (.c (.p (.int .i64) ((l.getD (v24).toNat ((0 : Int), ((0 : Int), (0 : Int)))).1))))], [(9, [], .box [.p (.int .i64) ((l.getD (v24).toNat ((0 : Int), ((0 : Int), (0 : Int)))).1), .p (.int .i64) ((l.getD (v24).toNat ((0 : Int), ((0 : Int), (0 : Int)))).2.1), .p (.int .i64) ((l.getD (v24).toNat ((0 : Int), ((0 : Int), (0 : Int)))).2.2)]), (29, [], .arr 39 (.int .u32) (List.replicate (((w.length : Int) + (1 : Int))).toNat (0 : Int))), (5007, [], .arr 92 (.sl (.int .u32)) all)]⟩ : St)) (by kernel_rfl) ⟨trivial, trivial, trivial⟩ ?_
      refine awl_nil ?_
      refine thenQ_n ?_
      refine aw_block ?_
      refine aw_seq ?_
      refine aw_region ?_
      refine awl_runp 2 [1, 5, 6, 7, 9, 10, 22, 23, 24, 31, 32] [9, 29, 5007] (ob := (True ∧ True ∧ True)) (st' := (⟨155, [(1, [], .v (.c (.p (.sl (.int .i64)) w))), (5, [], .v (.c (.ad (.int .i64) ((w.length : Int) + (1 : Int))))), (6, [], .v (.c (.fn 86 [(⟨(.int .i64), ((w.length : Int) + (1 : Int))⟩ : Dat)]))), (7, [], .v (.c (.own 5007))), (9, [], .v (.c (.ptr 9 0))), (10, [], .v (.c (.own 29))), (22, [], .v (.c (.p (.sl (.pr (.int .i64) (.pr (.int .i64) (.int .i64)))) l))), (23, [], .v (.c (.p (.int .i64) (l.length : Int)))), (24, [], .v (.c (.p (.int .i64) v24))), (31, [], .v (.c (.p (.int .i64) ((l.getD (v24).toNat ((0 : Int), ((0 : Int), (0 : Int)))).1)))), (32, [], .v (.c (.p .bool (decide ((l.getD (v24).toNat ((0 : Int), ((0 : Int), (0 : Int)))).1 = (2 : Int))))))], [(9, [], .box [.p (.int .i64) ((l.getD (v24).toNat ((0 : Int), ((0 : Int), (0 : Int)))).1), .p (.int .i64) ((l.getD (v24).toNat ((0 : Int), ((0 : Int), (0 : Int)))).2.1), .p (.int .i64) ((l.getD (v24).toNat ((0 : Int), ((0 : Int), (0 : Int)))).2.2)]), (29, [], .arr 39 (.int .u32) (List.replicate (((w.length : Int) + (1 : Int))).toNat (0 : Int))), (5007, [], .arr 92 (.sl (.int .u32)) all)]⟩ : St)) (by kernel_rfl) ⟨trivial, trivial, trivial⟩ ?_
      refine awl_nil ?_
      refine thenQ_n ?_
      refine withJoin (σ := (List Int)) (fun s => (⟨155, [(1, [], .v (.c (.p (.sl (.int .i64)) w))), (5, [], .v (.c (.ad (.int .i64) ((w.length : Int) + (1 : Int))))), (6, [], .v (.c (.fn 86 [(⟨(.int .i64), ((w.length : Int) + (1 : Int))⟩ : Dat)]))), (7, [], .v (.c (.own 5007))), (10, [], .v (.c (.own 29))), (22, [], .v (.c (.p (.sl (.pr (.int .i64) (.pr (.int .i64) (.int .i64)))) l))), (23, [], .v (.c (.p (.int .i64) (l.length : Int)))), (24, [], .v (.c (.p (.int .i64) v24)))], [(29, [], .arr 39 (.int .u32) s), (5007, [], .arr 92 (.sl (.int .u32)) all)]⟩ : St)) (fun s => VC46_k2 v24 all X1 s) (fun rv h => ?_) (fun rest2 => ?_)
      · have h : VC46_k2 v24 all X1 rv := h
        unfold VC46_k2 at h
        refine blockQ_n ?_
        refine thenQ_n ?_
        refine aw_region ?_
        refine awl_runp 2 [1, 5, 6, 22, 23, 24, 144, 145] [29, 5007] (ob := (True ∧ True ∧ True)) (st' := (⟨155, [(1, [], .v (.c (.p (.sl (.int .i64)) w))), (5, [], .v (.c (.ad (.int .i64) ((w.length : Int) + (1 : Int))))), (6, [], .v (.c (.fn 86 [(⟨(.int .i64), ((w.length : Int) + (1 : Int))⟩ : Dat)]))), (22, [], .v (.c (.p (.sl (.pr (.int .i64) (.pr (.int .i64) (.int .i64)))) l))), (23, [], .v (.c (.p (.int .i64) (l.length : Int)))), (24, [], .v (.c (.p (.int .i64) v24))), (144, [], .v (.c (.own 5007))), (145, [], .v (.c (.own 29)))], [(29, [], .arr 39 (.int .u32) rv), (5007, [], .arr 92 (.sl (.int .u32)) all)]⟩ : St)) (by kernel_rfl) ⟨trivial, trivial, trivial⟩ ?_
        refine awl_conv [.freeze 29] (st' := (⟨155, [(1, [], .v (.c (.p (.sl (.int .i64)) w))), (5, [], .v (.c (.ad (.int .i64) ((w.length : Int) + (1 : Int))))), (6, [], .v (.c (.fn 86 [(⟨(.int .i64), ((w.length : Int) + (1 : Int))⟩ : Dat)]))), (22, [], .v (.c (.p (.sl (.pr (.int .i64) (.pr (.int .i64) (.int .i64)))) l))), (23, [], .v (.c (.p (.int .i64) (l.length : Int)))), (24, [], .v (.c (.p (.int .i64) v24))), (144, [], .v (.c (.own 5007))), (145, [], .v (.c (.p (.sl (.int .u32)) rv)))], [(5007, [], .arr 92 (.sl (.int .u32)) all)]⟩ : St)) (by kernel_rfl) ?_
        obtain ⟨o1, h⟩ := h
        refine awl_runp 3 [1, 5, 6, 7, 22, 23, 24] [147] (ob := (True ∧ roomN (all.length + [rv].length) ∧ True ∧ True)) (st' := (⟨155, [(1, [], .v (.c (.p (.sl (.int .i64)) w))), (5, [], .v (.c (.ad (.int .i64) ((w.length : Int) + (1 : Int))))), (6, [], .v (.c (.fn 86 [(⟨(.int .i64), ((w.length : Int) + (1 : Int))⟩ : Dat)]))), (7, [], .v (.c (.own 147))), (22, [], .v (.c (.p (.sl (.pr (.int .i64) (.pr (.int .i64) (.int .i64)))) l))), (23, [], .v (.c (.p (.int .i64) (l.length : Int)))), (24, [], .v (.c (.p (.int .i64) v24)))], [(147, [], .arr 92 (.sl (.int .u32)) (all ++ [rv]))]⟩ : St)) (by kernel_rfl) ⟨trivial, o1, trivial, trivial⟩ ?_
        refine awl_nil ?_
        refine blockQ_n ?_
        refine thenQ_n ?_
        refine aw_region ?_
        obtain ⟨o1, h⟩ := h
        refine awl_runp 2 [1, 5, 6, 7, 22, 23, 24] [147] (ob := (InR (v24 + (1 : Int)) ∧ True ∧ True)) (st' := (⟨155, [(1, [], .v (.c (.p (.sl (.int .i64)) w))), (5, [], .v (.c (.ad (.int .i64) ((w.length : Int) + (1 : Int))))), (6, [], .v (.c (.fn 86 [(⟨(.int .i64), ((w.length : Int) + (1 : Int))⟩ : Dat)]))), (7, [], .v (.c (.own 147))), (22, [], .v (.c (.p (.sl (.pr (.int .i64) (.pr (.int .i64) (.int .i64)))) l))), (23, [], .v (.c (.p (.int .i64) (l.length : Int)))), (24, [], .v (.c (.p (.int .i64) (v24 + (1 : Int)))))], [(147, [], .arr 92 (.sl (.int .u32)) (all ++ [rv]))]⟩ : St)) (by kernel_rfl) ⟨o1, trivial, trivial⟩ ?_
        refine awl_conv [.ren 147 20147, .ren 20147 5007] (st' := (⟨155, [(1, [], .v (.c (.p (.sl (.int .i64)) w))), (5, [], .v (.c (.ad (.int .i64) ((w.length : Int) + (1 : Int))))), (6, [], .v (.c (.fn 86 [(⟨(.int .i64), ((w.length : Int) + (1 : Int))⟩ : Dat)]))), (7, [], .v (.c (.own 5007))), (22, [], .v (.c (.p (.sl (.pr (.int .i64) (.pr (.int .i64) (.int .i64)))) l))), (23, [], .v (.c (.p (.int .i64) (l.length : Int)))), (24, [], .v (.c (.p (.int .i64) (v24 + (1 : Int)))))], [(5007, [], .arr 92 (.sl (.int .u32)) (all ++ [rv]))]⟩ : St)) (by kernel_rfl) ?_
        refine awl_nil ?_
        exact thenQ_n ⟨((v24 + (1 : Int)), (all ++ [rv])), rfl, h⟩
      · refine aw_cond (b := (decide ((l.getD (v24).toNat ((0 : Int), ((0 : Int), (0 : Int)))).1 = (2 : Int)))) (by kernel_rfl) (fun hb => ?_) (fun hb => ?_)
        · have h := h.1 hb
          refine aw_seq ?_
          refine aw_region ?_
          refine awl_runp 2 [1, 5, 6, 7, 10, 22, 23, 24, 34, 35] [29, 5007] (ob := (True ∧ True ∧ True)) (st' := (⟨155, [(1, [], .v (.c (.p (.sl (.int .i64)) w))), (5, [], .v (.c (.ad (.int .i64) ((w.length : Int) + (1 : Int))))), (6, [], .v (.c (.fn 86 [(⟨(.int .i64), ((w.length : Int) + (1 : Int))⟩ : Dat)]))), (7, [], .v (.c (.own 5007))), (10, [], .v (.c (.own 29))), (22, [], .v (.c (.p (.sl (.pr (.int .i64) (.pr (.int .i64) (.int .i64)))) l))), (23, [], .v (.c (.p (.int .i64) (l.length : Int)))), (24, [], .v (.c (.p (.int .i64) v24))), (34, [], .v (.c (.p (.int .i64) ((w.length : Int) + (1 : Int))))), (35, [], .v (.c (.p (.int .i64) (0 : Int))))], [(29, [], .arr 39 (.int .u32) (List.replicate (((w.length : Int) + (1 : Int))).toNat (0 : Int))), (5007, [], .arr 92 (.sl (.int .u32)) all)]⟩ : St)) (by kernel_rfl) ⟨trivial, trivial, trivial⟩ ?_
          refine awl_nil ?_
          refine thenQ_n ?_
          refine withJoin (σ := (List Int)) (fun s => (⟨155, [(1, [], .v (.c (.p (.sl (.int .i64)) w))), (5, [], .v (.c (.ad (.int .i64) ((w.length : Int) + (1 : Int))))), (6, [], .v (.c (.fn 86 [(⟨(.int .i64), ((w.length : Int) + (1 : Int))⟩ : Dat)]))), (7, [], .v (.c (.own 5007))), (10, [], .v (.c (.own 29))), (22, [], .v (.c (.p (.sl (.pr (.int .i64) (.pr (.int .i64) (.int .i64)))) l))), (23, [], .v (.c (.p (.int .i64) (l.length : Int)))), (24, [], .v (.c (.p (.int .i64) v24)))], [(29, [], .arr 39 (.int .u32) s), (5007, [], .arr 92 (.sl (.int .u32)) all)]⟩ : St)) (fun s => VC46_k3 v24 all X1 s) (fun rv h => ?_) (fun rest3 => ?_)
          · have h : VC46_k3 v24 all X1 rv := h
            unfold VC46_k3 at h
            exact rest2 rv h
          · refine aw_block ?_
            refine aw_loop (σ := Int × (List Int)) (fun s => (⟨155, [(1, [], .v (.c (.p (.sl (.int .i64)) w))), (5, [], .v (.c (.ad (.int .i64) ((w.length : Int) + (1 : Int))))), (6, [], .v (.c (.fn 86 [(⟨(.int .i64), ((w.length : Int) + (1 : Int))⟩ : Dat)]))), (7, [], .v (.c (.own 5007))), (10, [], .v (.c (.own 29))), (22, [], .v (.c (.p (.sl (.pr (.int .i64) (.pr (.int .i64) (.int .i64)))) l))), (23, [], .v (.c (.p (.int .i64) (l.length : Int)))), (24, [], .v (.c (.p (.int .i64) v24))), (34, [], .v (.c (.p (.int .i64) ((w.length : Int) + (1 : Int))))), (35, [], .v (.c (.p (.int .i64) s.1)))], [(29, [], .arr 39 (.int .u32) s.2), (5007, [], .arr 92 (.sl (.int .u32)) all)]⟩ : St)) (fun s X => VC46_l2 w v24 all X1 s.1 s.2 X) (s0 := ((0 : Int), (List.replicate (((w.length : Int) + (1 : Int))).toNat (0 : Int)))) (fun s X2 h => ?_) h
            obtain ⟨v35, rv⟩ := s
            have h : VC46_l2 w v24 all X1 v35 rv X2 := h
            unfold VC46_l2 at h
            refine aw_seq ?_
            refine aw_region ?_
            refine awl_runp 1 [1, 5, 6, 7, 10, 22, 23, 24, 34, 35, 36] [29, 5007] (ob := (True ∧ True)) (st' := (⟨155, [(1, [], .v (.c (.p (.sl (.int .i64)) w))), (5, [], .v (.c (.ad (.int .i64) ((w.length : Int) + (1 : Int))))), (6, [], .v (.c (.fn 86 [(⟨(.int .i64), ((w.length : Int) + (1 : Int))⟩ : Dat)]))), (7, [], .v (.c (.own 5007))), (10, [], .v (.c (.own 29))), (22, [], .v (.c (.p (.sl (.pr (.int .i64) (.pr (.int .i64) (.int .i64)))) l))), (23, [], .v (.c (.p (.int .i64) (l.length : Int)))), (24, [], .v (.c (.p (.int .i64) v24))), (34, [], .v (.c (.p (.int .i64) ((w.length : Int) + (1 : Int))))), (35, [], .v (.c (.p (.int .i64) v35))), (36, [], .v (.c (.p .bool (decide (v35 < ((w.length : Int) + (1 : Int)))))))], [(29, [], .arr 39 (.int .u32) rv), (5007, [], .arr 92 (.sl (.int .u32)) all)]⟩ : St)) (by kernel_rfl) ⟨trivial, trivial⟩ ?_
            refine awl_nil ?_
            refine thenQ_n ?_
            refine aw_seq ?_
            refine aw_cond (b := (decide (v35 < ((w.length : Int) + (1 : Int))))) (by kernel_rfl) (fun hb => ?_) (fun hb => ?_)
            · have h := h.1 hb
              refine aw_skip ?_
              refine thenQ_n ?_
              refine aw_seq ?_
              refine aw_block ?_
              refine aw_seq ?_
              refine aw_region ?_
              refine awl_runp 2 [1, 5, 6, 7, 10, 11, 22, 23, 24, 34, 35] [29, 5007] (ob := (True ∧ True ∧ True)) (st' := (⟨155, [(1, [], .v (.c (.p (.sl (.int .i64)) w))), (5, [], .v (.c (.ad (.int .i64) ((w.length : Int) + (1 : Int))))), (6, [], .v (.c (.fn 86 [(⟨(.int .i64), ((w.length : Int) + (1 : Int))⟩ : Dat)]))), (7, [], .v (.c (.own 5007))), (10, [], .v (.c (.own 29))), (11, [], .v (.c (.p (.int .i64) v35))), (22, [], .v (.c (.p (.sl (.pr (.int .i64) (.pr (.int .i64) (.int .i64)))) l))), (23, [], .v (.c (.p (.int .i64) (l.length : Int)))), (24, [], .v (.c (.p (.int .i64) v24))), (34, [], .v (.c (.p (.int .i64) ((w.length : Int) + (1 : Int))))), (35, [], .v (.c (.p (.int .i64) v35)))], [(29, [], .arr 39 (.int .u32) rv), (5007, [], .arr 92 (.sl (.int .u32)) all)]⟩ : St)) (by kernel_rfl) ⟨trivial, trivial, trivial⟩ ?_
              refine awl_nil ?_
              refine thenQ_n ?_
              refine aw_region ?_
              obtain ⟨o1, o2, h⟩ := h
              refine awl_runp 6 [1, 5, 6, 7, 10, 22, 23, 24, 34, 35] [29, 5007] (ob := (True ∧ True ∧ True ∧ 0 ≤ v35 ∧ inIdx v35 rv.length ∧ True ∧ True)) (st' := (⟨155, [(1, [], .v (.c (.p (.sl (.int .i64)) w))), (5, [], .v (.c (.ad (.int .i64) ((w.length : Int) + (1 : Int))))), (6, [], .v (.c (.fn 86 [(⟨(.int .i64), ((w.length : Int) + (1 : Int))⟩ : Dat)]))), (7, [], .v (.c (.own 5007))), (10, [], .v (.c (.own 29))), (22, [], .v (.c (.p (.sl (.pr (.int .i64) (.pr (.int .i64) (.int .i64)))) l))), (23, [], .v (.c (.p (.int .i64) (l.length : Int)))), (24, [], .v (.c (.p (.int .i64) v24))), (34, [], .v (.c (.p (.int .i64) ((w.length : Int) + (1 : Int))))), (35, [], .v (.c (.p (.int .i64) v35)))], [(29, [], .arr 39 (.int .u32) (rv.set ((v35).toNat) (bShl .u32 (1 : Int) v35))), (5007, [], .arr 92 (.sl (.int .u32)) all)]⟩ : St)) (by kernel_rfl) ⟨trivial, trivial, trivial, o1, o2, trivial, trivial⟩ ?_
              refine awl_nil ?_
              refine blockQ_n ?_
              refine thenQ_n ?_
              refine aw_region ?_
              obtain ⟨o1, h⟩ := h
              refine awl_runp 2 [1, 5, 6, 7, 10, 22, 23, 24, 34, 35] [29, 5007] (ob := (InR (v35 + (1 : Int)) ∧ True ∧ True)) (st' := (⟨155, [(1, [], .v (.c (.p (.sl (.int .i64)) w))), (5, [], .v (.c (.ad (.int .i64) ((w.length : Int) + (1 : Int))))), (6, [], .v (.c (.fn 86 [(⟨(.int .i64), ((w.length : Int) + (1 : Int))⟩ : Dat)]))), (7, [], .v (.c (.own 5007))), (10, [], .v (.c (.own 29))), (22, [], .v (.c (.p (.sl (.pr (.int .i64) (.pr (.int .i64) (.int .i64)))) l))), (23, [], .v (.c (.p (.int .i64) (l.length : Int)))), (24, [], .v (.c (.p (.int .i64) v24))), (34, [], .v (.c (.p (.int .i64) ((w.length : Int) + (1 : Int))))), (35, [], .v (.c (.p (.int .i64) (v35 + (1 : Int)))))], [(29, [], .arr 39 (.int .u32) (rv.set ((v35).toNat) (bShl .u32 (1 : Int) v35))), (5007, [], .arr 92 (.sl (.int .u32)) all)]⟩ : St)) (by kernel_rfl) ⟨o1, trivial, trivial⟩ ?_
              refine awl_nil ?_
              exact thenQ_n ⟨((v35 + (1 : Int)), (rv.set ((v35).toNat) (bShl .u32 (1 : Int) v35))), rfl, h⟩
            · have h := h.2 hb
              refine aw_conv [.prune [1, 5, 6, 7, 10, 22, 23, 24] [29, 5007]] (st' := (⟨155, [(1, [], .v (.c (.p (.sl (.int .i64)) w))), (5, [], .v (.c (.ad (.int .i64) ((w.length : Int) + (1 : Int))))), (6, [], .v (.c (.fn 86 [(⟨(.int .i64), ((w.length : Int) + (1 : Int))⟩ : Dat)]))), (7, [], .v (.c (.own 5007))), (10, [], .v (.c (.own 29))), (22, [], .v (.c (.p (.sl (.pr (.int .i64) (.pr (.int .i64) (.int .i64)))) l))), (23, [], .v (.c (.p (.int .i64) (l.length : Int)))), (24, [], .v (.c (.p (.int .i64) v24)))], [(29, [], .arr 39 (.int .u32) rv), (5007, [], .arr 92 (.sl (.int .u32)) all)]⟩ : St)) (by kernel_rfl) ?_
              refine aw_exit ?_
              refine thenQ_x ?_
              refine thenQ_x ?_
              refine blockQ_hit ?_
              exact rest3 rv h
        · have h := h.2 hb
          refine aw_seq ?_
          refine aw_region ?_
          refine awl_runp 2 [1, 5, 6, 7, 9, 10, 22, 23, 24, 31, 44] [9, 29, 5007] (ob := (True ∧ True ∧ True)) (st' := (⟨155, [(1, [], .v (.c (.p (.sl (.int .i64)) w))), (5, [], .v (.c (.ad (.int .i64) ((w.length : Int) + (1 : Int))))), (6, [], .v (.c (.fn 86 [(⟨(.int .i64), ((w.length : Int) + (1 : Int))⟩ : Dat)]))), (7, [], .v (.c (.own 5007))), (9, [], .v (.c (.ptr 9 0))), (10, [], .v (.c (.own 29))), (22, [], .v (.c (.p (.sl (.pr (.int .i64) (.pr (.int .i64) (.int .i64)))) l))), (23, [], .v (.c (.p (.int .i64) (l.length : Int)))), (24, [], .v (.c (.p (.int .i64) v24))), (31, [], .v (.c (.p (.int .i64) ((l.getD (v24).toNat ((0 : Int), ((0 : Int), (0 : Int)))).1)))), (44, [], .v (.c (.p .bool (decide ((l.getD (v24).toNat ((0 : Int), ((0 : Int), (0 : Int)))).1 = (3 : Int))))))], [(9, [], .box [.p (.int .i64) ((l.getD (v24).toNat ((0 : Int), ((0 : Int), (0 : Int)))).1), .p (.int .i64) ((l.getD (v24).toNat ((0 : Int), ((0 : Int), (0 : Int)))).2.1), .p (.int .i64) ((l.getD (v24).toNat ((0 : Int), ((0 : Int), (0 : Int)))).2.2)]), (29, [], .arr 39 (.int .u32) (List.replicate (((w.length : Int) + (1 : Int))).toNat (0 : Int))), (5007, [], .arr 92 (.sl (.int .u32)) all)]⟩ : St)) (by kernel_rfl) ⟨trivial, trivial, trivial⟩ ?_
          refine awl_nil ?_
          refine thenQ_n ?_
          refine withJoin (σ := (List Int)) (fun s => (⟨155, [(1, [], .v (.c (.p (.sl (.int .i64)) w))), (5, [], .v (.c (.ad (.int .i64) ((w.length : Int) + (1 : Int))))), (6, [], .v (.c (.fn 86 [(⟨(.int .i64), ((w.length : Int) + (1 : Int))⟩ : Dat)]))), (7, [], .v (.c (.own 5007))), (10, [], .v (.c (.own 29))), (22, [], .v (.c (.p (.sl (.pr (.int .i64) (.pr (.int .i64) (.int .i64)))) l))), (23, [], .v (.c (.p (.int .i64) (l.length : Int)))), (24, [], .v (.c (.p (.int .i64) v24)))], [(29, [], .arr 39 (.int .u32) s), (5007, [], .arr 92 (.sl (.int .u32)) all)]⟩ : St)) (fun s => VC46_k4 v24 all X1 s) (fun rv h => ?_) (fun rest4 => ?_)
          · have h : VC46_k4 v24 all X1 rv := h
            unfold VC46_k4 at h
            exact rest2 rv h
          · refine aw_cond (b := (decide ((l.getD (v24).toNat ((0 : Int), ((0 : Int), (0 : Int)))).1 = (3 : Int)))) (by kernel_rfl) (fun hb => ?_) (fun hb => ?_)
            · have h := h.1 hb
              refine aw_seq ?_
              refine aw_region ?_
              refine awl_runp 3 [1, 5, 6, 7, 9, 10, 22, 23, 24, 46, 47, 48] [9, 29, 5007] (ob := (True ∧ True ∧ True ∧ True)) (st' := (⟨155, [(1, [], .v (.c (.p (.sl (.int .i64)) w))), (5, [], .v (.c (.ad (.int .i64) ((w.length : Int) + (1 : Int))))), (6, [], .v (.c (.fn 86 [(⟨(.int .i64), ((w.length : Int) + (1 : Int))⟩ : Dat)]))), (7, [], .v (.c (.own 5007))), (9, [], .v (.c (.ptr 9 0))), (10, [], .v (.c (.own 29))), (22, [], .v (.c (.p (.sl (.pr (.int .i64) (.pr (.int .i64) (.int .i64)))) l))), (23, [], .v (.c (.p (.int .i64) (l.length : Int)))), (24, [], .v (.c (.p (.int .i64) v24))), (46, [], .v (.c (.p (.sl (.int .i64)) w))), (47, [], .v (.c (.p (.int .i64) (w.length : Int)))), (48, [], .v (.c (.p (.int .i64) (0 : Int))))], [(9, [], .box [.p (.int .i64) ((l.getD (v24).toNat ((0 : Int), ((0 : Int), (0 : Int)))).1), .p (.int .i64) ((l.getD (v24).toNat ((0 : Int), ((0 : Int), (0 : Int)))).2.1), .p (.int .i64) ((l.getD (v24).toNat ((0 : Int), ((0 : Int), (0 : Int)))).2.2)]), (29, [], .arr 39 (.int .u32) (List.replicate (((w.length : Int) + (1 : Int))).toNat (0 : Int))), (5007, [], .arr 92 (.sl (.int .u32)) all)]⟩ : St)) (by kernel_rfl) ⟨trivial, trivial, trivial, trivial⟩ ?_
              refine awl_nil ?_
              refine thenQ_n ?_
              refine withJoin (σ := (List Int)) (fun s => (⟨155, [(1, [], .v (.c (.p (.sl (.int .i64)) w))), (5, [], .v (.c (.ad (.int .i64) ((w.length : Int) + (1 : Int))))), (6, [], .v (.c (.fn 86 [(⟨(.int .i64), ((w.length : Int) + (1 : Int))⟩ : Dat)]))), (7, [], .v (.c (.own 5007))), (10, [], .v (.c (.own 29))), (22, [], .v (.c (.p (.sl (.pr (.int .i64) (.pr (.int .i64) (.int .i64)))) l))), (23, [], .v (.c (.p (.int .i64) (l.length : Int)))), (24, [], .v (.c (.p (.int .i64) v24)))], [(29, [], .arr 39 (.int .u32) s), (5007, [], .arr 92 (.sl (.int .u32)) all)]⟩ : St)) (fun s => VC46_k5 v24 all X1 s) (fun rv h => ?_) (fun rest5 => ?_)
              · have h : VC46_k5 v24 all X1 rv := h
                unfold VC46_k5 at h
                exact rest4 rv h
              · refine aw_block ?_
                refine aw_loop (σ := Int × (List Int)) (fun s => (⟨155, [(1, [], .v (.c (.p (.sl (.int .i64)) w))), (5, [], .v (.c (.ad (.int .i64) ((w.length : Int) + (1 : Int))))), (6, [], .v (.c (.fn 86 [(⟨(.int .i64), ((w.length : Int) + (1 : Int))⟩ : Dat)]))), (7, [], .v (.c (.own 5007))), (9, [], .v (.c (.ptr 9 0))), (10, [], .v (.c (.own 29))), (22, [], .v (.c (.p (.sl (.pr (.int .i64) (.pr (.int .i64) (.int .i64)))) l))), (23, [], .v (.c (.p (.int .i64) (l.length : Int)))), (24, [], .v (.c (.p (.int .i64) v24))), (46, [], .v (.c (.p (.sl (.int .i64)) w))), (47, [], .v (.c (.p (.int .i64) (w.length : Int)))), (48, [], .v (.c (.p (.int .i64) s.1)))], [(9, [], .box [.p (.int .i64) ((l.getD (v24).toNat ((0 : Int), ((0 : Int), (0 : Int)))).1), .p (.int .i64) ((l.getD (v24).toNat ((0 : Int), ((0 : Int), (0 : Int)))).2.1), .p (.int .i64) ((l.getD (v24).toNat ((0 : Int), ((0 : Int), (0 : Int)))).2.2)]), (29, [], .arr 39 (.int .u32) s.2), (5007, [], .arr 92 (.sl (.int .u32)) all)]⟩ : St)) (fun s X => VC46_l3 l w v24 all X1 s.1 s.2 X) (s0 := ((0 : Int), (List.replicate (((w.length : Int) + (1 : Int))).toNat (0 : Int)))) (fun s X3 h => ?_) h
                obtain ⟨v48, rv⟩ := s
                have h : VC46_l3 l w v24 all X1 v48 rv X3 := h
                unfold VC46_l3 at h
                refine aw_seq ?_
                refine aw_region ?_
                refine awl_runp 1 [1, 5, 6, 7, 9, 10, 22, 23, 24, 46, 47, 48, 49] [9, 29, 5007] (ob := (True ∧ True)) (st' := (⟨155, [(1, [], .v (.c (.p (.sl (.int .i64)) w))), (5, [], .v (.c (.ad (.int .i64) ((w.length : Int) + (1 : Int))))), (6, [], .v (.c (.fn 86 [(⟨(.int .i64), ((w.length : Int) + (1 : Int))⟩ : Dat)]))), (7, [], .v (.c (.own 5007))), (9, [], .v (.c (.ptr 9 0))), (10, [], .v (.c (.own 29))), (22, [], .v (.c (.p (.sl (.pr (.int .i64) (.pr (.int .i64) (.int .i64)))) l))), (23, [], .v (.c (.p (.int .i64) (l.length : Int)))), (24, [], .v (.c (.p (.int .i64) v24))), (46, [], .v (.c (.p (.sl (.int .i64)) w))), (47, [], .v (.c (.p (.int .i64) (w.length : Int)))), (48, [], .v (.c (.p (.int .i64) v48))), (49, [], .v (.c (.p .bool (decide (v48 < (w.length : Int))))))], [(9, [], .box [.p (.int .i64) ((l.getD (v24).toNat ((0 : Int), ((0 : Int), (0 : Int)))).1), .p (.int .i64) ((l.getD (v24).toNat ((0 : Int), ((0 : Int), (0 : Int)))).2.1), .p (.int .i64) ((l.getD (v24).toNat ((0 : Int), ((0 : Int), (0 : Int)))).2.2)]), (29, [], .arr 39 (.int .u32) rv), (5007, [], .arr 92 (.sl (.int .u32)) all)]⟩ : St)) (by kernel_rfl) ⟨trivial, trivial⟩ ?_
                refine awl_nil ?_
                refine thenQ_n ?_
                refine aw_seq ?_
                refine aw_cond (b := (decide (v48 < (w.length : Int)))) (by kernel_rfl) (fun hb => ?_) (fun hb => ?_)
                · have h := h.1 hb
                  refine aw_skip ?_
                  refine thenQ_n ?_
                  refine aw_seq ?_
                  refine aw_block ?_
                  refine aw_seq ?_
                  refine aw_region ?_
                  obtain ⟨o1, h⟩ := h
                  refine awl_runp 5 [1, 5, 6, 7, 9, 10, 12, 13, 22, 23, 24, 46, 47, 48] [9, 29, 5007] (ob := (True ∧ inIdx v48 w.length ∧ True ∧ True ∧ True ∧ True)) (st' := (⟨155, [(1, [], .v (.c (.p (.sl (.int .i64)) w))), (5, [], .v (.c (.ad (.int .i64) ((w.length : Int) + (1 : Int))))), (6, [], .v (.c (.fn 86 [(⟨(.int .i64), ((w.length : Int) + (1 : Int))⟩ : Dat)]))), (7, [], .v (.c (.own 5007))), (9, [], .v (.c (.ptr 9 0))), (10, [], .v (.c (.own 29))), (12, [], .v (.c (.p (.int .i64) v48))), (13, [], .v (.c (.p (.int .i64) (w.getD (v48).toNat (0 : Int))))), (22, [], .v (.c (.p (.sl (.pr (.int .i64) (.pr (.int .i64) (.int .i64)))) l))), (23, [], .v (.c (.p (.int .i64) (l.length : Int)))), (24, [], .v (.c (.p (.int .i64) v24))), (46, [], .v (.c (.p (.sl (.int .i64)) w))), (47, [], .v (.c (.p (.int .i64) (w.length : Int)))), (48, [], .v (.c (.p (.int .i64) v48)))], [(9, [], .box [.p (.int .i64) ((l.getD (v24).toNat ((0 : Int), ((0 : Int), (0 : Int)))).1), .p (.int .i64) ((l.getD (v24).toNat ((0 : Int), ((0 : Int), (0 : Int)))).2.1), .p (.int .i64) ((l.getD (v24).toNat ((0 : Int), ((0 : Int), (0 : Int)))).2.2)]), (29, [], .arr 39 (.int .u32) rv), (5007, [], .arr 92 (.sl (.int .u32)) all)]⟩ : St)) (by kernel_rfl) ⟨trivial, o1, trivial, trivial, trivial, trivial⟩ ?_
                  refine awl_nil ?_
                  refine thenQ_n ?_
                  refine aw_seq ?_
                  refine aw_region ?_
                  refine awl_runp 4 [1, 5, 6, 7, 9, 10, 12, 22, 23, 24, 46, 47, 48, 56] [9, 29, 5007] (ob := (True ∧ True ∧ True ∧ True ∧ True)) (st' := (⟨155, [(1, [], .v (.c (.p (.sl (.int .i64)) w))), (5, [], .v (.c (.ad (.int .i64) ((w.length : Int) + (1 : Int))))), (6, [], .v (.c (.fn 86 [(⟨(.int .i64), ((w.length : Int) + (1 : Int))⟩ : Dat)]))), (7, [], .v (.c (.own 5007))), (9, [], .v (.c (.ptr 9 0))), (10, [], .v (.c (.own 29))), (12, [], .v (.c (.p (.int .i64) v48))), (22, [], .v (.c (.p (.sl (.pr (.int .i64) (.pr (.int .i64) (.int .i64)))) l))), (23, [], .v (.c (.p (.int .i64) (l.length : Int)))), (24, [], .v (.c (.p (.int .i64) v24))), (46, [], .v (.c (.p (.sl (.int .i64)) w))), (47, [], .v (.c (.p (.int .i64) (w.length : Int)))), (48, [], .v (.c (.p (.int .i64) v48))), (56, [], .v (.c (.p .bool (decide ((w.getD (v48).toNat (0 : Int)) = (l.getD (v24).toNat ((0 : Int), ((0 : Int), (0 : Int)))).2.1)))))], [(9, [], .box [.p (.int .i64) ((l.getD (v24).toNat ((0 : Int), ((0 : Int), (0 : Int)))).1), .p (.int .i64) ((l.getD (v24).toNat ((0 : Int), ((0 : Int), (0 : Int)))).2.1), .p (.int .i64) ((l.getD (v24).toNat ((0 : Int), ((0 : Int), (0 : Int)))).2.2)]), (29, [], .arr 39 (.int .u32) rv), (5007, [], .arr 92 (.sl (.int .u32)) all)]⟩ : St)) (by kernel_rfl) ⟨trivial, trivial, trivial, trivial, trivial⟩ ?_
                  refine awl_nil ?_
                  refine thenQ_n ?_
                  refine withJoin (σ := (List Int)) (fun s => (⟨155, [(1, [], .v (.c (.p (.sl (.int .i64)) w))), (5, [], .v (.c (.ad (.int .i64) ((w.length : Int) + (1 : Int))))), (6, [], .v (.c (.fn 86 [(⟨(.int .i64), ((w.length : Int) + (1 : Int))⟩ : Dat)]))), (7, [], .v (.c (.own 5007))), (9, [], .v (.c (.ptr 9 0))), (10, [], .v (.c (.own 29))), (22, [], .v (.c (.p (.sl (.pr (.int .i64) (.pr (.int .i64) (.int .i64)))) l))), (23, [], .v (.c (.p (.int .i64) (l.length : Int)))), (24, [], .v (.c (.p (.int .i64) v24))), (46, [], .v (.c (.p (.sl (.int .i64)) w))), (47, [], .v (.c (.p (.int .i64) (w.length : Int)))), (48, [], .v (.c (.p (.int .i64) v48)))], [(9, [], .box [.p (.int .i64) ((l.getD (v24).toNat ((0 : Int), ((0 : Int), (0 : Int)))).1), .p (.int .i64) ((l.getD (v24).toNat ((0 : Int), ((0 : Int), (0 : Int)))).2.1), .p (.int .i64) ((l.getD (v24).toNat ((0 : Int), ((0 : Int), (0 : Int)))).2.2)]), (29, [], .arr 39 (.int .u32) s), (5007, [], .arr 92 (.sl (.int .u32)) all)]⟩ : St)) (fun s => VC46_k6 v48 X3 s) (fun rv2 h => ?_) (fun rest6 => ?_)
                  · have h : VC46_k6 v48 X3 rv2 := h
                    unfold VC46_k6 at h
                    refine blockQ_n ?_
                    refine thenQ_n ?_
                    refine aw_region ?_
                    obtain ⟨o1, h⟩ := h
                    refine awl_runp 2 [1, 5, 6, 7, 9, 10, 22, 23, 24, 46, 47, 48] [9, 29, 5007] (ob := (InR (v48 + (1 : Int)) ∧ True ∧ True)) (st' := (⟨155, [(1, [], .v (.c (.p (.sl (.int .i64)) w))), (5, [], .v (.c (.ad (.int .i64) ((w.length : Int) + (1 : Int))))), (6, [], .v (.c (.fn 86 [(⟨(.int .i64), ((w.length : Int) + (1 : Int))⟩ : Dat)]))), (7, [], .v (.c (.own 5007))), (9, [], .v (.c (.ptr 9 0))), (10, [], .v (.c (.own 29))), (22, [], .v (.c (.p (.sl (.pr (.int .i64) (.pr (.int .i64) (.int .i64)))) l))), (23, [], .v (.c (.p (.int .i64) (l.length : Int)))), (24, [], .v (.c (.p (.int .i64) v24))), (46, [], .v (.c (.p (.sl (.int .i64)) w))), (47, [], .v (.c (.p (.int .i64) (w.length : Int)))), (48, [], .v (.c (.p (.int .i64) (v48 + (1 : Int)))))], [(9, [], .box [.p (.int .i64) ((l.getD (v24).toNat ((0 : Int), ((0 : Int), (0 : Int)))).1), .p (.int .i64) ((l.getD (v24).toNat ((0 : Int), ((0 : Int), (0 : Int)))).2.1), .p (.int .i64) ((l.getD (v24).toNat ((0 : Int), ((0 : Int), (0 : Int)))).2.2)]), (29, [], .arr 39 (.int .u32) rv2), (5007, [], .arr 92 (.sl (.int .u32)) all)]⟩ : St)) (by kernel_rfl) ⟨o1, trivial, trivial⟩ ?_
                    refine awl_nil ?_
                    exact thenQ_n ⟨((v48 + (1 : Int)), rv2), rfl, h⟩
                  · refine aw_cond (b := (decide ((w.getD (v48).toNat (0 : Int)) = (l.getD (v24).toNat ((0 : Int), ((0 : Int), (0 : Int)))).2.1))) (by kernel_rfl) (fun hb => ?_) (fun hb => ?_)
                    · have h := h.1 hb
                      refine aw_region ?_
                      obtain ⟨o1, o2, o3, h⟩ := h
                      refine awl_runp 7 [1, 5, 6, 7, 9, 10, 22, 23, 24, 46, 47, 48] [9, 29, 5007] (ob := (True ∧ True ∧ True ∧ InR (v48 + (1 : Int)) ∧ 0 ≤ (v48 + (1 : Int)) ∧ inIdx v48 rv.length ∧ True ∧ True)) (st' := (⟨155, [(1, [], .v (.c (.p (.sl (.int .i64)) w))), (5, [], .v (.c (.ad (.int .i64) ((w.length : Int) + (1 : Int))))), (6, [], .v (.c (.fn 86 [(⟨(.int .i64), ((w.length : Int) + (1 : Int))⟩ : Dat)]))), (7, [], .v (.c (.own 5007))), (9, [], .v (.c (.ptr 9 0))), (10, [], .v (.c (.own 29))), (22, [], .v (.c (.p (.sl (.pr (.int .i64) (.pr (.int .i64) (.int .i64)))) l))), (23, [], .v (.c (.p (.int .i64) (l.length : Int)))), (24, [], .v (.c (.p (.int .i64) v24))), (46, [], .v (.c (.p (.sl (.int .i64)) w))), (47, [], .v (.c (.p (.int .i64) (w.length : Int)))), (48, [], .v (.c (.p (.int .i64) v48)))], [(9, [], .box [.p (.int .i64) ((l.getD (v24).toNat ((0 : Int), ((0 : Int), (0 : Int)))).1), .p (.int .i64) ((l.getD (v24).toNat ((0 : Int), ((0 : Int), (0 : Int)))).2.1), .p (.int .i64) ((l.getD (v24).toNat ((0 : Int), ((0 : Int), (0 : Int)))).2.2)]), (29, [], .arr 39 (.int .u32) (rv.set ((v48).toNat) (bShl .u32 (1 : Int) (v48 + (1 : Int))))), (5007, [], .arr 92 (.sl (.int .u32)) all)]⟩ : St)) (by kernel_rfl) ⟨trivial, trivial, trivial, o1, o2, o3, trivial, trivial⟩ ?_
                      refine awl_nil ?_
                      exact rest6 (rv.set ((v48).toNat) (bShl .u32 (1 : Int) (v48 + (1 : Int)))) h
                    · have h := h.2 hb
                      refine aw_conv [.prune [1, 5, 6, 7, 9, 10, 22, 23, 24, 46, 47, 48] [9, 29, 5007]] (st' := (⟨155, [(1, [], .v (.c (.p (.sl (.int .i64)) w))), (5, [], .v (.c (.ad (.int .i64) ((w.length : Int) + (1 : Int))))), (6, [], .v (.c (.fn 86 [(⟨(.int .i64), ((w.length : Int) + (1 : Int))⟩ : Dat)]))), (7, [], .v (.c (.own 5007))), (9, [], .v (.c (.ptr 9 0))), (10, [], .v (.c (.own 29))), (22, [], .v (.c (.p (.sl (.pr (.int .i64) (.pr (.int .i64) (.int .i64)))) l))), (23, [], .v (.c (.p (.int .i64) (l.length : Int)))), (24, [], .v (.c (.p (.int .i64) v24))), (46, [], .v (.c (.p (.sl (.int .i64)) w))), (47, [], .v (.c (.p (.int .i64) (w.length : Int)))), (48, [], .v (.c (.p (.int .i64) v48)))], [(9, [], .box [.p (.int .i64) ((l.getD (v24).toNat ((0 : Int), ((0 : Int), (0 : Int)))).1), .p (.int .i64) ((l.getD (v24).toNat ((0 : Int), ((0 : Int), (0 : Int)))).2.1), .p (.int .i64) ((l.getD (v24).toNat ((0 : Int), ((0 : Int), (0 : Int)))).2.2)]), (29, [], .arr 39 (.int .u32) rv), (5007, [], .arr 92 (.sl (.int .u32)) all)]⟩ : St)) (by kernel_rfl) ?_
                      refine aw_skip ?_
                      exact rest6 rv h
                · have h := h.2 hb
                  refine aw_conv [.prune [1, 5, 6, 7, 10, 22, 23, 24] [29, 5007]] (st' := (⟨155, [(1, [], .v (.c (.p (.sl (.int .i64)) w))), (5, [], .v (.c (.ad (.int .i64) ((w.length : Int) + (1 : Int))))), (6, [], .v (.c (.fn 86 [(⟨(.int .i64), ((w.length : Int) + (1 : Int))⟩ : Dat)]))), (7, [], .v (.c (.own 5007))), (10, [], .v (.c (.own 29))), (22, [], .v (.c (.p (.sl (.pr (.int .i64) (.pr (.int .i64) (.int .i64)))) l))), (23, [], .v (.c (.p (.int .i64) (l.length : Int)))), (24, [], .v (.c (.p (.int .i64) v24)))], [(29, [], .arr 39 (.int .u32) rv), (5007, [], .arr 92 (.sl (.int .u32)) all)]⟩ : St)) (by kernel_rfl) ?_
                  refine aw_exit ?_
                  refine thenQ_x ?_
                  refine thenQ_x ?_
                  refine blockQ_hit ?_
                  exact rest5 rv h
            · have h := h.2 hb
              refine aw_seq ?_
              refine aw_region ?_
              refine awl_runp 2 [1, 5, 6, 7, 9, 10, 22, 23, 24, 31, 64] [9, 29, 5007] (ob := (True ∧ True ∧ True)) (st' := (⟨155, [(1, [], .v (.c (.p (.sl (.int .i64)) w))), (5, [], .v (.c (.ad (.int .i64) ((w.length : Int) + (1 : Int))))), (6, [], .v (.c (.fn 86 [(⟨(.int .i64), ((w.length : Int) + (1 : Int))⟩ : Dat)]))), (7, [], .v (.c (.own 5007))), (9, [], .v (.c (.ptr 9 0))), (10, [], .v (.c (.own 29))), (22, [], .v (.c (.p (.sl (.pr (.int .i64) (.pr (.int .i64) (.int .i64)))) l))), (23, [], .v (.c (.p (.int .i64) (l.length : Int)))), (24, [], .v (.c (.p (.int .i64) v24))), (31, [], .v (.c (.p (.int .i64) ((l.getD (v24).toNat ((0 : Int), ((0 : Int), (0 : Int)))).1)))), (64, [], .v (.c (.p .bool (decide ((l.getD (v24).toNat ((0 : Int), ((0 : Int), (0 : Int)))).1 = (4 : Int))))))], [(9, [], .box [.p (.int .i64) ((l.getD (v24).toNat ((0 : Int), ((0 : Int), (0 : Int)))).1), .p (.int .i64) ((l.getD (v24).toNat ((0 : Int), ((0 : Int), (0 : Int)))).2.1), .p (.int .i64) ((l.getD (v24).toNat ((0 : Int), ((0 : Int), (0 : Int)))).2.2)]), (29, [], .arr 39 (.int .u32) (List.replicate (((w.length : Int) + (1 : Int))).toNat (0 : Int))), (5007, [], .arr 92 (.sl (.int .u32)) all)]⟩ : St)) (by kernel_rfl) ⟨trivial, trivial, trivial⟩ ?_
              refine awl_nil ?_
              refine thenQ_n ?_
              refine withJoin (σ := (List Int)) (fun s => (⟨155, [(1, [], .v (.c (.p (.sl (.int .i64)) w))), (5, [], .v (.c (.ad (.int .i64) ((w.length : Int) + (1 : Int))))), (6, [], .v (.c (.fn 86 [(⟨(.int .i64), ((w.length : Int) + (1 : Int))⟩ : Dat)]))), (7, [], .v (.c (.own 5007))), (10, [], .v (.c (.own 29))), (22, [], .v (.c (.p (.sl (.pr (.int .i64) (.pr (.int .i64) (.int .i64)))) l))), (23, [], .v (.c (.p (.int .i64) (l.length : Int)))), (24, [], .v (.c (.p (.int .i64) v24)))], [(29, [], .arr 39 (.int .u32) s), (5007, [], .arr 92 (.sl (.int .u32)) all)]⟩ : St)) (fun s => VC46_k7 v24 all X1 s) (fun rv h => ?_) (fun rest7 => ?_)
              · have h : VC46_k7 v24 all X1 rv := h
                unfold VC46_k7 at h
                exact rest4 rv h
              · refine aw_cond (b := (decide ((l.getD (v24).toNat ((0 : Int), ((0 : Int), (0 : Int)))).1 = (4 : Int)))) (by kernel_rfl) (fun hb => ?_) (fun hb => ?_)
                · have h := h.1 hb
                  refine awd_begin [] (by kernel_rfl) ?_
                  obtain ⟨o1, o2, h⟩ := h
                  refine awd_runp (by kernel_rfl) [0, 1, 2, 3, 4, 5, 6, 7, 8, 9, 10] [1, 5, 6, 7, 10, 22, 23, 24, 66, 71, 76] [29, 5007] (ob := (True ∧ True ∧ True ∧ True ∧ inIdx ((l.getD (v24).toNat ((0 : Int), ((0 : Int), (0 : Int)))).2.1) all.length ∧ True ∧ True ∧ True ∧ True ∧ inIdx ((l.getD (v24).toNat ((0 : Int), ((0 : Int), (0 : Int)))).2.2) all.length ∧ True ∧ True)) (done' := [10, 9, 8, 7, 6, 5, 4, 3, 2, 1, 0]) (st' := (⟨155, [(1, [], .v (.c (.p (.sl (.int .i64)) w))), (5, [], .v (.c (.ad (.int .i64) ((w.length : Int) + (1 : Int))))), (6, [], .v (.c (.fn 86 [(⟨(.int .i64), ((w.length : Int) + (1 : Int))⟩ : Dat)]))), (7, [], .v (.c (.own 5007))), (10, [], .v (.c (.own 29))), (22, [], .v (.c (.p (.sl (.pr (.int .i64) (.pr (.int .i64) (.int .i64)))) l))), (23, [], .v (.c (.p (.int .i64) (l.length : Int)))), (24, [], .v (.c (.p (.int .i64) v24))), (66, [], .v (.c (.fn 86 [(⟨(.int .i64), ((w.length : Int) + (1 : Int))⟩ : Dat)]))), (71, [], .v (.c (.p (.sl (.int .u32)) (all.getD (((l.getD (v24).toNat ((0 : Int), ((0 : Int), (0 : Int)))).2.1).toNat) ([] : (List Int)))))), (76, [], .v (.c (.p (.sl (.int .u32)) (all.getD (((l.getD (v24).toNat ((0 : Int), ((0 : Int), (0 : Int)))).2.2).toNat) ([] : (List Int))))))], [(29, [], .arr 39 (.int .u32) (List.replicate (((w.length : Int) + (1 : Int))).toNat (0 : Int))), (5007, [], .arr 92 (.sl (.int .u32)) all)]⟩ : St)) (by kernel_rfl) ⟨trivial, trivial, trivial, trivial, o1, trivial, trivial, trivial, trivial, o2, trivial, trivial⟩ ?_
                  refine awd_one (i := 11) (by kernel_rfl) ?_
                  refine adop_callOk (e := 39) (t := (.int .u32)) (l := [toV1 (.sl (.int .u32)) (all.getD (((l.getD (v24).toNat ((0 : Int), ((0 : Int), (0 : Int)))).2.1).toNat) ([] : (List Int))), toV1 (.sl (.int .u32)) (all.getD (((l.getD (v24).toNat ((0 : Int), ((0 : Int), (0 : Int)))).2.2).toNat) ([] : (List Int)))]) (cl := [.c (.ad (.int .i64) ((w.length : Int) + (1 : Int)))]) false [.d (.sl (.int .u32)), .d (.sl (.int .u32))] [1, 5, 6, 7, 10, 22, 23, 24, 77] [29, 77, 5007] (fun (ret77v : (List Int)) => VC46_k7 v24 all X1 ret77v) (fun ret77v => (⟨155, [(1, [], .v (.c (.p (.sl (.int .i64)) w))), (5, [], .v (.c (.ad (.int .i64) ((w.length : Int) + (1 : Int))))), (6, [], .v (.c (.fn 86 [(⟨(.int .i64), ((w.length : Int) + (1 : Int))⟩ : Dat)]))), (7, [], .v (.c (.own 5007))), (10, [], .v (.c (.own 29))), (22, [], .v (.c (.p (.sl (.pr (.int .i64) (.pr (.int .i64) (.int .i64)))) l))), (23, [], .v (.c (.p (.int .i64) (l.length : Int)))), (24, [], .v (.c (.p (.int .i64) v24))), (77, [], .v (.c (.own 77)))], [(29, [], .arr 39 (.int .u32) (List.replicate (((w.length : Int) + (1 : Int))).toNat (0 : Int))), (77, [], .arr 39 (.int .u32) ret77v), (5007, [], .arr 92 (.sl (.int .u32)) all)]⟩ : St)) rfl rfl rfl (by kernel_rfl) rfl (by kernel_rfl) Try.call86 (by kernel_rfl) (fun e => by cases e) (fun ret77v => by kernel_rfl) (link86 (all.getD (((l.getD (v24).toNat ((0 : Int), ((0 : Int), (0 : Int)))).2.1).toNat) ([] : (List Int))) (all.getD (((l.getD (v24).toNat ((0 : Int), ((0 : Int), (0 : Int)))).2.2).toNat) ([] : (List Int))) ((w.length : Int) + (1 : Int)) _ h) (fun ret77v h => ?_)
                  have h : VC46_k7 v24 all X1 ret77v := h
                  refine awd_runp (by kernel_rfl) [12] [1, 5, 6, 7, 10, 22, 23, 24] [77, 5007] (ob := (True ∧ True)) (done' := [12, 11, 10, 9, 8, 7, 6, 5, 4, 3, 2, 1, 0]) (st' := (⟨155, [(1, [], .v (.c (.p (.sl (.int .i64)) w))), (5, [], .v (.c (.ad (.int .i64) ((w.length : Int) + (1 : Int))))), (6, [], .v (.c (.fn 86 [(⟨(.int .i64), ((w.length : Int) + (1 : Int))⟩ : Dat)]))), (7, [], .v (.c (.own 5007))), (10, [], .v (.c (.own 77))), (22, [], .v (.c (.p (.sl (.pr (.int .i64) (.pr (.int .i64) (.int .i64)))) l))), (23, [], .v (.c (.p (.int .i64) (l.length : Int)))), (24, [], .v (.c (.p (.int .i64) v24)))], [(77, [], .arr 39 (.int .u32) ret77v), (5007, [], .arr 92 (.sl (.int .u32)) all)]⟩ : St)) (by kernel_rfl) ⟨trivial, trivial⟩ ?_
                  refine awd_end [.ren 77 20077, .ren 20077 29] (st' := (⟨155, [(1, [], .v (.c (.p (.sl (.int .i64)) w))), (5, [], .v (.c (.ad (.int .i64) ((w.length : Int) + (1 : Int))))), (6, [], .v (.c (.fn 86 [(⟨(.int .i64), ((w.length : Int) + (1 : Int))⟩ : Dat)]))), (7, [], .v (.c (.own 5007))), (10, [], .v (.c (.own 29))), (22, [], .v (.c (.p (.sl (.pr (.int .i64) (.pr (.int .i64) (.int .i64)))) l))), (23, [], .v (.c (.p (.int .i64) (l.length : Int)))), (24, [], .v (.c (.p (.int .i64) v24)))], [(29, [], .arr 39 (.int .u32) ret77v), (5007, [], .arr 92 (.sl (.int .u32)) all)]⟩ : St)) (by kernel_rfl) (by kernel_rfl) ?_
                  exact rest7 ret77v h
                · have h := h.2 hb
                  refine aw_seq ?_
                  refine aw_region ?_
                  refine awl_runp 2 [1, 5, 6, 7, 9, 10, 22, 23, 24, 31, 78] [9, 29, 5007] (ob := (True ∧ True ∧ True)) (st' := (⟨155, [(1, [], .v (.c (.p (.sl (.int .i64)) w))), (5, [], .v (.c (.ad (.int .i64) ((w.length : Int) + (1 : Int))))), (6, [], .v (.c (.fn 86 [(⟨(.int .i64), ((w.length : Int) + (1 : Int))⟩ : Dat)]))), (7, [], .v (.c (.own 5007))), (9, [], .v (.c (.ptr 9 0))), (10, [], .v (.c (.own 29))), (22, [], .v (.c (.p (.sl (.pr (.int .i64) (.pr (.int .i64) (.int .i64)))) l))), (23, [], .v (.c (.p (.int .i64) (l.length : Int)))), (24, [], .v (.c (.p (.int .i64) v24))), (31, [], .v (.c (.p (.int .i64) ((l.getD (v24).toNat ((0 : Int), ((0 : Int), (0 : Int)))).1)))), (78, [], .v (.c (.p .bool (decide ((l.getD (v24).toNat ((0 : Int), ((0 : Int), (0 : Int)))).1 = (5 : Int))))))], [(9, [], .box [.p (.int .i64) ((l.getD (v24).toNat ((0 : Int), ((0 : Int), (0 : Int)))).1), .p (.int .i64) ((l.getD (v24).toNat ((0 : Int), ((0 : Int), (0 : Int)))).2.1), .p (.int .i64) ((l.getD (v24).toNat ((0 : Int), ((0 : Int), (0 : Int)))).2.2)]), (29, [], .arr 39 (.int .u32) (List.replicate (((w.length : Int) + (1 : Int))).toNat (0 : Int))), (5007, [], .arr 92 (.sl (.int .u32)) all)]⟩ : St)) (by kernel_rfl) ⟨trivial, trivial, trivial⟩ ?_
                  refine awl_nil ?_
                  refine thenQ_n ?_
                  refine withJoin (σ := (List Int)) (fun s => (⟨155, [(1, [], .v (.c (.p (.sl (.int .i64)) w))), (5, [], .v (.c (.ad (.int .i64) ((w.length : Int) + (1 : Int))))), (6, [], .v (.c (.fn 86 [(⟨(.int .i64), ((w.length : Int) + (1 : Int))⟩ : Dat)]))), (7, [], .v (.c (.own 5007))), (10, [], .v (.c (.own 29))), (22, [], .v (.c (.p (.sl (.pr (.int .i64) (.pr (.int .i64) (.int .i64)))) l))), (23, [], .v (.c (.p (.int .i64) (l.length : Int)))), (24, [], .v (.c (.p (.int .i64) v24)))], [(29, [], .arr 39 (.int .u32) s), (5007, [], .arr 92 (.sl (.int .u32)) all)]⟩ : St)) (fun s => VC46_k8 v24 all X1 s) (fun rv h => ?_) (fun rest8 => ?_)
                  · have h : VC46_k8 v24 all X1 rv := h
                    unfold VC46_k8 at h
                    exact rest7 rv h
                  · refine aw_cond (b := (decide ((l.getD (v24).toNat ((0 : Int), ((0 : Int), (0 : Int)))).1 = (5 : Int)))) (by kernel_rfl) (fun hb => ?_) (fun hb => ?_)
                    · have h := h.1 hb
                      refine aw_seq ?_
                      refine aw_region ?_
                      refine awl_runp 2 [1, 5, 6, 7, 9, 10, 22, 23, 24, 80, 81] [9, 29, 5007] (ob := (True ∧ True ∧ True)) (st' := (⟨155, [(1, [], .v (.c (.p (.sl (.int .i64)) w))), (5, [], .v (.c (.ad (.int .i64) ((w.length : Int) + (1 : Int))))), (6, [], .v (.c (.fn 86 [(⟨(.int .i64), ((w.length : Int) + (1 : Int))⟩ : Dat)]))), (7, [], .v (.c (.own 5007))), (9, [], .v (.c (.ptr 9 0))), (10, [], .v (.c (.own 29))), (22, [], .v (.c (.p (.sl (.pr (.int .i64) (.pr (.int .i64) (.int .i64)))) l))), (23, [], .v (.c (.p (.int .i64) (l.length : Int)))), (24, [], .v (.c (.p (.int .i64) v24))), (80, [], .v (.c (.p (.int .i64) ((w.length : Int) + (1 : Int))))), (81, [], .v (.c (.p (.int .i64) (0 : Int))))], [(9, [], .box [.p (.int .i64) ((l.getD (v24).toNat ((0 : Int), ((0 : Int), (0 : Int)))).1), .p (.int .i64) ((l.getD (v24).toNat ((0 : Int), ((0 : Int), (0 : Int)))).2.1), .p (.int .i64) ((l.getD (v24).toNat ((0 : Int), ((0 : Int), (0 : Int)))).2.2)]), (29, [], .arr 39 (.int .u32) (List.replicate (((w.length : Int) + (1 : Int))).toNat (0 : Int))), (5007, [], .arr 92 (.sl (.int .u32)) all)]⟩ : St)) (by kernel_rfl) ⟨trivial, trivial, trivial⟩ ?_
                      refine awl_nil ?_
                      refine thenQ_n ?_
                      refine withJoin (σ := (List Int)) (fun s => (⟨155, [(1, [], .v (.c (.p (.sl (.int .i64)) w))), (5, [], .v (.c (.ad (.int .i64) ((w.length : Int) + (1 : Int))))), (6, [], .v (.c (.fn 86 [(⟨(.int .i64), ((w.length : Int) + (1 : Int))⟩ : Dat)]))), (7, [], .v (.c (.own 5007))), (10, [], .v (.c (.own 29))), (22, [], .v (.c (.p (.sl (.pr (.int .i64) (.pr (.int .i64) (.int .i64)))) l))), (23, [], .v (.c (.p (.int .i64) (l.length : Int)))), (24, [], .v (.c (.p (.int .i64) v24)))], [(29, [], .arr 39 (.int .u32) s), (5007, [], .arr 92 (.sl (.int .u32)) all)]⟩ : St)) (fun s => VC46_k9 v24 all X1 s) (fun rv h => ?_) (fun rest9 => ?_)
                      · have h : VC46_k9 v24 all X1 rv := h
                        unfold VC46_k9 at h
                        exact rest8 rv h
                      · refine aw_block ?_
                        refine aw_loop (σ := Int × (List Int)) (fun s => (⟨155, [(1, [], .v (.c (.p (.sl (.int .i64)) w))), (5, [], .v (.c (.ad (.int .i64) ((w.length : Int) + (1 : Int))))), (6, [], .v (.c (.fn 86 [(⟨(.int .i64), ((w.length : Int) + (1 : Int))⟩ : Dat)]))), (7, [], .v (.c (.own 5007))), (9, [], .v (.c (.ptr 9 0))), (10, [], .v (.c (.own 29))), (22, [], .v (.c (.p (.sl (.pr (.int .i64) (.pr (.int .i64) (.int .i64)))) l))), (23, [], .v (.c (.p (.int .i64) (l.length : Int)))), (24, [], .v (.c (.p (.int .i64) v24))), (80, [], .v (.c (.p (.int .i64) ((w.length : Int) + (1 : Int))))), (81, [], .v (.c (.p (.int .i64) s.1)))], [(9, [], .box [.p (.int .i64) ((l.getD (v24).toNat ((0 : Int), ((0 : Int), (0 : Int)))).1), .p (.int .i64) ((l.getD (v24).toNat ((0 : Int), ((0 : Int), (0 : Int)))).2.1), .p (.int .i64) ((l.getD (v24).toNat ((0 : Int), ((0 : Int), (0 : Int)))).2.2)]), (29, [], .arr 39 (.int .u32) s.2), (5007, [], .arr 92 (.sl (.int .u32)) all)]⟩ : St)) (fun s X => VC46_l4 l w v24 all X1 s.1 s.2 X) (s0 := ((0 : Int), (List.replicate (((w.length : Int) + (1 : Int))).toNat (0 : Int)))) (fun s X4 h => ?_) h
                        obtain ⟨v81, rv⟩ := s
                        have h : VC46_l4 l w v24 all X1 v81 rv X4 := h
                        unfold VC46_l4 at h
                        refine aw_seq ?_
                        refine aw_region ?_
                        refine awl_runp 1 [1, 5, 6, 7, 9, 10, 22, 23, 24, 80, 81, 82] [9, 29, 5007] (ob := (True ∧ True)) (st' := (⟨155, [(1, [], .v (.c (.p (.sl (.int .i64)) w))), (5, [], .v (.c (.ad (.int .i64) ((w.length : Int) + (1 : Int))))), (6, [], .v (.c (.fn 86 [(⟨(.int .i64), ((w.length : Int) + (1 : Int))⟩ : Dat)]))), (7, [], .v (.c (.own 5007))), (9, [], .v (.c (.ptr 9 0))), (10, [], .v (.c (.own 29))), (22, [], .v (.c (.p (.sl (.pr (.int .i64) (.pr (.int .i64) (.int .i64)))) l))), (23, [], .v (.c (.p (.int .i64) (l.length : Int)))), (24, [], .v (.c (.p (.int .i64) v24))), (80, [], .v (.c (.p (.int .i64) ((w.length : Int) + (1 : Int))))), (81, [], .v (.c (.p (.int .i64) v81))), (82, [], .v (.c (.p .bool (decide (v81 < ((w.length : Int) + (1 : Int)))))))], [(9, [], .box [.p (.int .i64) ((l.getD (v24).toNat ((0 : Int), ((0 : Int), (0 : Int)))).1), .p (.int .i64) ((l.getD (v24).toNat ((0 : Int), ((0 : Int), (0 : Int)))).2.1), .p (.int .i64) ((l.getD (v24).toNat ((0 : Int), ((0 : Int), (0 : Int)))).2.2)]), (29, [], .arr 39 (.int .u32) rv), (5007, [], .arr 92 (.sl (.int .u32)) all)]⟩ : St)) (by kernel_rfl) ⟨trivial, trivial⟩ ?_
                        refine awl_nil ?_
                        refine thenQ_n ?_
                        refine aw_seq ?_
                        refine aw_cond (b := (decide (v81 < ((w.length : Int) + (1 : Int))))) (by kernel_rfl) (fun hb => ?_) (fun hb => ?_)
                        · have h := h.1 hb
                          refine aw_skip ?_
                          refine thenQ_n ?_
                          refine aw_seq ?_
                          refine aw_block ?_
                          refine aw_seq ?_
                          refine aw_region ?_
                          refine awl_runp 2 [1, 5, 6, 7, 9, 10, 14, 22, 23, 24, 80, 81] [9, 29, 5007] (ob := (True ∧ True ∧ True)) (st' := (⟨155, [(1, [], .v (.c (.p (.sl (.int .i64)) w))), (5, [], .v (.c (.ad (.int .i64) ((w.length : Int) + (1 : Int))))), (6, [], .v (.c (.fn 86 [(⟨(.int .i64), ((w.length : Int) + (1 : Int))⟩ : Dat)]))), (7, [], .v (.c (.own 5007))), (9, [], .v (.c (.ptr 9 0))), (10, [], .v (.c (.own 29))), (14, [], .v (.c (.p (.int .i64) v81))), (22, [], .v (.c (.p (.sl (.pr (.int .i64) (.pr (.int .i64) (.int .i64)))) l))), (23, [], .v (.c (.p (.int .i64) (l.length : Int)))), (24, [], .v (.c (.p (.int .i64) v24))), (80, [], .v (.c (.p (.int .i64) ((w.length : Int) + (1 : Int))))), (81, [], .v (.c (.p (.int .i64) v81)))], [(9, [], .box [.p (.int .i64) ((l.getD (v24).toNat ((0 : Int), ((0 : Int), (0 : Int)))).1), .p (.int .i64) ((l.getD (v24).toNat ((0 : Int), ((0 : Int), (0 : Int)))).2.1), .p (.int .i64) ((l.getD (v24).toNat ((0 : Int), ((0 : Int), (0 : Int)))).2.2)]), (29, [], .arr 39 (.int .u32) rv), (5007, [], .arr 92 (.sl (.int .u32)) all)]⟩ : St)) (by kernel_rfl) ⟨trivial, trivial, trivial⟩ ?_
                          refine awl_nil ?_
                          refine thenQ_n ?_
                          refine awd_begin [29] (by kernel_rfl) ?_
                          obtain ⟨o1, o2, o3, o4, o5, h⟩ := h
                          refine awd_runp (by kernel_rfl) [0, 1, 2, 3, 4, 5, 6, 7, 8, 9, 10, 11, 12, 13, 14, 15, 16, 17, 18, 19] [1, 5, 6, 7, 9, 10, 22, 23, 24, 80, 81, 102, 103] [9, 29, 5007] (ob := (True ∧ True ∧ True ∧ True ∧ True ∧ inIdx ((l.getD (v24).toNat ((0 : Int), ((0 : Int), (0 : Int)))).2.1) all.length ∧ True ∧ True ∧ inIdx v81 (all.getD (((l.getD (v24).toNat ((0 : Int), ((0 : Int), (0 : Int)))).2.1).toNat) ([] : (List Int))).length ∧ True ∧ True ∧ True ∧ True ∧ inIdx ((l.getD (v24).toNat ((0 : Int), ((0 : Int), (0 : Int)))).2.2) all.length ∧ True ∧ True ∧ inIdx v81 (all.getD (((l.getD (v24).toNat ((0 : Int), ((0 : Int), (0 : Int)))).2.2).toNat) ([] : (List Int))).length ∧ True ∧ True ∧ inIdx v81 rv.length ∧ True)) (done' := [19, 18, 17, 16, 15, 14, 13, 12, 11, 10, 9, 8, 7, 6, 5, 4, 3, 2, 1, 0]) (st' := (⟨155, [(1, [], .v (.c (.p (.sl (.int .i64)) w))), (5, [], .v (.c (.ad (.int .i64) ((w.length : Int) + (1 : Int))))), (6, [], .v (.c (.fn 86 [(⟨(.int .i64), ((w.length : Int) + (1 : Int))⟩ : Dat)]))), (7, [], .v (.c (.own 5007))), (9, [], .v (.c (.ptr 9 0))), (10, [], .v (.c (.own 29))), (22, [], .v (.c (.p (.sl (.pr (.int .i64) (.pr (.int .i64) (.int .i64)))) l))), (23, [], .v (.c (.p (.int .i64) (l.length : Int)))), (24, [], .v (.c (.p (.int .i64) v24))), (80, [], .v (.c (.p (.int .i64) ((w.length : Int) + (1 : Int))))), (81, [], .v (.c (.p (.int .i64) v81))), (102, [], .v (.c (.p (.int .u32) (bOr .u32 ((all.getD (((l.getD (v24).toNat ((0 : Int), ((0 : Int), (0 : Int)))).2.1).toNat) ([] : (List Int))).getD (v81).toNat (0 : Int)) ((all.getD (((l.getD (v24).toNat ((0 : Int), ((0 : Int), (0 : Int)))).2.2).toNat) ([] : (List Int))).getD (v81).toNat (0 : Int)))))), (103, [], .v (.c (.el 29 ((v81).toNat) 1)))], [(9, [], .box [.p (.int .i64) ((l.getD (v24).toNat ((0 : Int), ((0 : Int), (0 : Int)))).1), .p (.int .i64) ((l.getD (v24).toNat ((0 : Int), ((0 : Int), (0 : Int)))).2.1), .p (.int .i64) ((l.getD (v24).toNat ((0 : Int), ((0 : Int), (0 : Int)))).2.2)]), (29, [], .arr 39 (.int .u32) rv), (5007, [], .arr 92 (.sl (.int .u32)) all)]⟩ : St)) (by kernel_rfl) ⟨trivial, trivial, trivial, trivial, trivial, o1, trivial, trivial, o2, trivial, trivial, trivial, trivial, o3, trivial, trivial, o4, trivial, trivial, o5, trivial⟩ ?_
                          refine awd_one (i := 20) (by kernel_rfl) ?_
                          refine adop_stepp [1, 5, 6, 7, 9, 10, 22, 23, 24, 80, 81] [9, 29, 5007] (ob := True) (st' := (⟨155, [(1, [], .v (.c (.p (.sl (.int .i64)) w))), (5, [], .v (.c (.ad (.int .i64) ((w.length : Int) + (1 : Int))))), (6, [], .v (.c (.fn 86 [(⟨(.int .i64), ((w.length : Int) + (1 : Int))⟩ : Dat)]))), (7, [], .v (.c (.own 5007))), (9, [], .v (.c (.ptr 9 0))), (10, [], .v (.c (.own 29))), (22, [], .v (.c (.p (.sl (.pr (.int .i64) (.pr (.int .i64) (.int .i64)))) l))), (23, [], .v (.c (.p (.int .i64) (l.length : Int)))), (24, [], .v (.c (.p (.int .i64) v24))), (80, [], .v (.c (.p (.int .i64) ((w.length : Int) + (1 : Int))))), (81, [], .v (.c (.p (.int .i64) v81)))], [(9, [], .box [.p (.int .i64) ((l.getD (v24).toNat ((0 : Int), ((0 : Int), (0 : Int)))).1), .p (.int .i64) ((l.getD (v24).toNat ((0 : Int), ((0 : Int), (0 : Int)))).2.1), .p (.int .i64) ((l.getD (v24).toNat ((0 : Int), ((0 : Int), (0 : Int)))).2.2)]), (29, [], .arr 39 (.int .u32) (rv.set ((v81).toNat) (bOr .u32 ((all.getD (((l.getD (v24).toNat ((0 : Int), ((0 : Int), (0 : Int)))).2.1).toNat) ([] : (List Int))).getD (v81).toNat (0 : Int)) ((all.getD (((l.getD (v24).toNat ((0 : Int), ((0 : Int), (0 : Int)))).2.2).toNat) ([] : (List Int))).getD (v81).toNat (0 : Int))))), (5007, [], .arr 92 (.sl (.int .u32)) all)]⟩ : St)) rfl (by kernel_rfl) trivial ?_
                          refine awd_done (by kernel_rfl) ?_
                          refine blockQ_n ?_
                          refine thenQ_n ?_
                          refine aw_region ?_
                          obtain ⟨o1, h⟩ := h
                          refine awl_runp 2 [1, 5, 6, 7, 9, 10, 22, 23, 24, 80, 81] [9, 29, 5007] (ob := (InR (v81 + (1 : Int)) ∧ True ∧ True)) (st' := (⟨155, [(1, [], .v (.c (.p (.sl (.int .i64)) w))), (5, [], .v (.c (.ad (.int .i64) ((w.length : Int) + (1 : Int))))), (6, [], .v (.c (.fn 86 [(⟨(.int .i64), ((w.length : Int) + (1 : Int))⟩ : Dat)]))), (7, [], .v (.c (.own 5007))), (9, [], .v (.c (.ptr 9 0))), (10, [], .v (.c (.own 29))), (22, [], .v (.c (.p (.sl (.pr (.int .i64) (.pr (.int .i64) (.int .i64)))) l))), (23, [], .v (.c (.p (.int .i64) (l.length : Int)))), (24, [], .v (.c (.p (.int .i64) v24))), (80, [], .v (.c (.p (.int .i64) ((w.length : Int) + (1 : Int))))), (81, [], .v (.c (.p (.int .i64) (v81 + (1 : Int)))))], [(9, [], .box [.p (.int .i64) ((l.getD (v24).toNat ((0 : Int), ((0 : Int), (0 : Int)))).1), .p (.int .i64) ((l.getD (v24).toNat ((0 : Int), ((0 : Int), (0 : Int)))).2.1), .p (.int .i64) ((l.getD (v24).toNat ((0 : Int), ((0 : Int), (0 : Int)))).2.2)]), (29, [], .arr 39 (.int .u32) (rv.set ((v81).toNat) (bOr .u32 ((all.getD (((l.getD (v24).toNat ((0 : Int), ((0 : Int), (0 : Int)))).2.1).toNat) ([] : (List Int))).getD (v81).toNat (0 : Int)) ((all.getD (((l.getD (v24).toNat ((0 : Int), ((0 : Int), (0 : Int)))).2.2).toNat) ([] : (List Int))).getD (v81).toNat (0 : Int))))), (5007, [], .arr 92 (.sl (.int .u32)) all)]⟩ : St)) (by kernel_rfl) ⟨o1, trivial, trivial⟩ ?_
                          refine awl_nil ?_
                          exact thenQ_n ⟨((v81 + (1 : Int)), (rv.set ((v81).toNat) (bOr .u32 ((all.getD (((l.getD (v24).toNat ((0 : Int), ((0 : Int), (0 : Int)))).2.1).toNat) ([] : (List Int))).getD (v81).toNat (0 : Int)) ((all.getD (((l.getD (v24).toNat ((0 : Int), ((0 : Int), (0 : Int)))).2.2).toNat) ([] : (List Int))).getD (v81).toNat (0 : Int))))), rfl, h⟩
                        · have h := h.2 hb
                          refine aw_conv [.prune [1, 5, 6, 7, 10, 22, 23, 24] [29, 5007]] (st' := (⟨155, [(1, [], .v (.c (.p (.sl (.int .i64)) w))), (5, [], .v (.c (.ad (.int .i64) ((w.length : Int) + (1 : Int))))), (6, [], .v (.c (.fn 86 [(⟨(.int .i64), ((w.length : Int) + (1 : Int))⟩ : Dat)]))), (7, [], .v (.c (.own 5007))), (10, [], .v (.c (.own 29))), (22, [], .v (.c (.p (.sl (.pr (.int .i64) (.pr (.int .i64) (.int .i64)))) l))), (23, [], .v (.c (.p (.int .i64) (l.length : Int)))), (24, [], .v (.c (.p (.int .i64) v24)))], [(29, [], .arr 39 (.int .u32) rv), (5007, [], .arr 92 (.sl (.int .u32)) all)]⟩ : St)) (by kernel_rfl) ?_
                          refine aw_exit ?_
                          refine thenQ_x ?_
                          refine thenQ_x ?_
                          refine blockQ_hit ?_
                          exact rest9 rv h
                    · have h := h.2 hb
                      refine aw_seq ?_
                      refine aw_region ?_
                      refine awl_runp 2 [1, 5, 6, 7, 9, 10, 22, 23, 24, 105] [9, 29, 5007] (ob := (True ∧ True ∧ True)) (st' := (⟨155, [(1, [], .v (.c (.p (.sl (.int .i64)) w))), (5, [], .v (.c (.ad (.int .i64) ((w.length : Int) + (1 : Int))))), (6, [], .v (.c (.fn 86 [(⟨(.int .i64), ((w.length : Int) + (1 : Int))⟩ : Dat)]))), (7, [], .v (.c (.own 5007))), (9, [], .v (.c (.ptr 9 0))), (10, [], .v (.c (.own 29))), (22, [], .v (.c (.p (.sl (.pr (.int .i64) (.pr (.int .i64) (.int .i64)))) l))), (23, [], .v (.c (.p (.int .i64) (l.length : Int)))), (24, [], .v (.c (.p (.int .i64) v24))), (105, [], .v (.c (.p .bool (decide ((l.getD (v24).toNat ((0 : Int), ((0 : Int), (0 : Int)))).1 = (6 : Int))))))], [(9, [], .box [.p (.int .i64) ((l.getD (v24).toNat ((0 : Int), ((0 : Int), (0 : Int)))).1), .p (.int .i64) ((l.getD (v24).toNat ((0 : Int), ((0 : Int), (0 : Int)))).2.1), .p (.int .i64) ((l.getD (v24).toNat ((0 : Int), ((0 : Int), (0 : Int)))).2.2)]), (29, [], .arr 39 (.int .u32) (List.replicate (((w.length : Int) + (1 : Int))).toNat (0 : Int))), (5007, [], .arr 92 (.sl (.int .u32)) all)]⟩ : St)) (by kernel_rfl) ⟨trivial, trivial, trivial⟩ ?_
                      refine awl_nil ?_
                      refine thenQ_n ?_
                      refine withJoin (σ := (List Int)) (fun s => (⟨155, [(1, [], .v (.c (.p (.sl (.int .i64)) w))), (5, [], .v (.c (.ad (.int .i64) ((w.length : Int) + (1 : Int))))), (6, [], .v (.c (.fn 86 [(⟨(.int .i64), ((w.length : Int) + (1 : Int))⟩ : Dat)]))), (7, [], .v (.c (.own 5007))), (10, [], .v (.c (.own 29))), (22, [], .v (.c (.p (.sl (.pr (.int .i64) (.pr (.int .i64) (.int .i64)))) l))), (23, [], .v (.c (.p (.int .i64) (l.length : Int)))), (24, [], .v (.c (.p (.int .i64) v24)))], [(29, [], .arr 39 (.int .u32) s), (5007, [], .arr 92 (.sl (.int .u32)) all)]⟩ : St)) (fun s => VC46_k10 v24 all X1 s) (fun rv h => ?_) (fun rest10 => ?_)
                      · have h : VC46_k10 v24 all X1 rv := h
                        unfold VC46_k10 at h
                        exact rest8 rv h
                      · refine aw_cond (b := (decide ((l.getD (v24).toNat ((0 : Int), ((0 : Int), (0 : Int)))).1 = (6 : Int)))) (by kernel_rfl) (fun hb => ?_) (fun hb => ?_)
                        · have h := h.1 hb
                          refine aw_seq ?_
                          refine aw_seq ?_
                          refine aw_region ?_
                          refine awl_runp 2 [1, 5, 6, 7, 9, 10, 22, 23, 24, 107, 108] [9, 29, 5007] (ob := (True ∧ True ∧ True)) (st' := (⟨155, [(1, [], .v (.c (.p (.sl (.int .i64)) w))), (5, [], .v (.c (.ad (.int .i64) ((w.length : Int) + (1 : Int))))), (6, [], .v (.c (.fn 86 [(⟨(.int .i64), ((w.length : Int) + (1 : Int))⟩ : Dat)]))), (7, [], .v (.c (.own 5007))), (9, [], .v (.c (.ptr 9 0))), (10, [], .v (.c (.own 29))), (22, [], .v (.c (.p (.sl (.pr (.int .i64) (.pr (.int .i64) (.int .i64)))) l))), (23, [], .v (.c (.p (.int .i64) (l.length : Int)))), (24, [], .v (.c (.p (.int .i64) v24))), (107, [], .v (.c (.p (.int .i64) ((w.length : Int) + (1 : Int))))), (108, [], .v (.c (.p (.int .i64) (0 : Int))))], [(9, [], .box [.p (.int .i64) ((l.getD (v24).toNat ((0 : Int), ((0 : Int), (0 : Int)))).1), .p (.int .i64) ((l.getD (v24).toNat ((0 : Int), ((0 : Int), (0 : Int)))).2.1), .p (.int .i64) ((l.getD (v24).toNat ((0 : Int), ((0 : Int), (0 : Int)))).2.2)]), (29, [], .arr 39 (.int .u32) (List.replicate (((w.length : Int) + (1 : Int))).toNat (0 : Int))), (5007, [], .arr 92 (.sl (.int .u32)) all)]⟩ : St)) (by kernel_rfl) ⟨trivial, trivial, trivial⟩ ?_
                          refine awl_nil ?_
                          refine thenQ_n ?_
                          refine withJoin (σ := (List Int)) (fun s => (⟨155, [(1, [], .v (.c (.p (.sl (.int .i64)) w))), (5, [], .v (.c (.ad (.int .i64) ((w.length : Int) + (1 : Int))))), (6, [], .v (.c (.fn 86 [(⟨(.int .i64), ((w.length : Int) + (1 : Int))⟩ : Dat)]))), (7, [], .v (.c (.own 5007))), (9, [], .v (.c (.ptr 9 0))), (10, [], .v (.c (.own 29))), (22, [], .v (.c (.p (.sl (.pr (.int .i64) (.pr (.int .i64) (.int .i64)))) l))), (23, [], .v (.c (.p (.int .i64) (l.length : Int)))), (24, [], .v (.c (.p (.int .i64) v24)))], [(9, [], .box [.p (.int .i64) ((l.getD (v24).toNat ((0 : Int), ((0 : Int), (0 : Int)))).1), .p (.int .i64) ((l.getD (v24).toNat ((0 : Int), ((0 : Int), (0 : Int)))).2.1), .p (.int .i64) ((l.getD (v24).toNat ((0 : Int), ((0 : Int), (0 : Int)))).2.2)]), (29, [], .arr 39 (.int .u32) s), (5007, [], .arr 92 (.sl (.int .u32)) all)]⟩ : St)) (fun s => VC46_k11 l w v24 all X1 s) (fun rv h => ?_) (fun rest13 => ?_)
                          · have h : VC46_k11 l w v24 all X1 rv := h
                            unfold VC46_k11 at h
                            refine thenQ_n ?_
                            refine aw_seq ?_
                            refine aw_region ?_
                            refine awl_runp 2 [1, 5, 6, 7, 9, 10, 22, 23, 24, 117, 118] [9, 29, 5007] (ob := (True ∧ True ∧ True)) (st' := (⟨155, [(1, [], .v (.c (.p (.sl (.int .i64)) w))), (5, [], .v (.c (.ad (.int .i64) ((w.length : Int) + (1 : Int))))), (6, [], .v (.c (.fn 86 [(⟨(.int .i64), ((w.length : Int) + (1 : Int))⟩ : Dat)]))), (7, [], .v (.c (.own 5007))), (9, [], .v (.c (.ptr 9 0))), (10, [], .v (.c (.own 29))), (22, [], .v (.c (.p (.sl (.pr (.int .i64) (.pr (.int .i64) (.int .i64)))) l))), (23, [], .v (.c (.p (.int .i64) (l.length : Int)))), (24, [], .v (.c (.p (.int .i64) v24))), (117, [], .v (.c (.p (.int .i64) ((w.length : Int) + (1 : Int))))), (118, [], .v (.c (.p (.int .i64) (0 : Int))))], [(9, [], .box [.p (.int .i64) ((l.getD (v24).toNat ((0 : Int), ((0 : Int), (0 : Int)))).1), .p (.int .i64) ((l.getD (v24).toNat ((0 : Int), ((0 : Int), (0 : Int)))).2.1), .p (.int .i64) ((l.getD (v24).toNat ((0 : Int), ((0 : Int), (0 : Int)))).2.2)]), (29, [], .arr 39 (.int .u32) rv), (5007, [], .arr 92 (.sl (.int .u32)) all)]⟩ : St)) (by kernel_rfl) ⟨trivial, trivial, trivial⟩ ?_
                            refine awl_nil ?_
                            refine thenQ_n ?_
                            refine withJoin (σ := (List Int)) (fun s => (⟨155, [(1, [], .v (.c (.p (.sl (.int .i64)) w))), (5, [], .v (.c (.ad (.int .i64) ((w.length : Int) + (1 : Int))))), (6, [], .v (.c (.fn 86 [(⟨(.int .i64), ((w.length : Int) + (1 : Int))⟩ : Dat)]))), (7, [], .v (.c (.own 5007))), (10, [], .v (.c (.own 29))), (22, [], .v (.c (.p (.sl (.pr (.int .i64) (.pr (.int .i64) (.int .i64)))) l))), (23, [], .v (.c (.p (.int .i64) (l.length : Int)))), (24, [], .v (.c (.p (.int .i64) v24)))], [(29, [], .arr 39 (.int .u32) s), (5007, [], .arr 92 (.sl (.int .u32)) all)]⟩ : St)) (fun s => VC46_k12 v24 all X1 s) (fun rv2 h => ?_) (fun rest11 => ?_)
                            · have h : VC46_k12 v24 all X1 rv2 := h
                              unfold VC46_k12 at h
                              exact rest10 rv2 h
                            · refine aw_block ?_
                              refine aw_loop (σ := Int × (List Int)) (fun s => (⟨155, [(1, [], .v (.c (.p (.sl (.int .i64)) w))), (5, [], .v (.c (.ad (.int .i64) ((w.length : Int) + (1 : Int))))), (6, [], .v (.c (.fn 86 [(⟨(.int .i64), ((w.length : Int) + (1 : Int))⟩ : Dat)]))), (7, [], .v (.c (.own 5007))), (9, [], .v (.c (.ptr 9 0))), (10, [], .v (.c (.own 29))), (22, [], .v (.c (.p (.sl (.pr (.int .i64) (.pr (.int .i64) (.int .i64)))) l))), (23, [], .v (.c (.p (.int .i64) (l.length : Int)))), (24, [], .v (.c (.p (.int .i64) v24))), (117, [], .v (.c (.p (.int .i64) ((w.length : Int) + (1 : Int))))), (118, [], .v (.c (.p (.int .i64) s.1)))], [(9, [], .box [.p (.int .i64) ((l.getD (v24).toNat ((0 : Int), ((0 : Int), (0 : Int)))).1), .p (.int .i64) ((l.getD (v24).toNat ((0 : Int), ((0 : Int), (0 : Int)))).2.1), .p (.int .i64) ((l.getD (v24).toNat ((0 : Int), ((0 : Int), (0 : Int)))).2.2)]), (29, [], .arr 39 (.int .u32) s.2), (5007, [], .arr 92 (.sl (.int .u32)) all)]⟩ : St)) (fun s X => VC46_l5 l w v24 all X1 s.1 s.2 X) (s0 := ((0 : Int), rv)) (fun s X5 h => ?_) h
                              obtain ⟨v118, rv2⟩ := s
                              have h : VC46_l5 l w v24 all X1 v118 rv2 X5 := h
                              unfold VC46_l5 at h
                              refine aw_seq ?_
                              refine aw_region ?_
                              refine awl_runp 1 [1, 5, 6, 7, 9, 10, 22, 23, 24, 117, 118, 119] [9, 29, 5007] (ob := (True ∧ True)) (st' := (⟨155, [(1, [], .v (.c (.p (.sl (.int .i64)) w))), (5, [], .v (.c (.ad (.int .i64) ((w.length : Int) + (1 : Int))))), (6, [], .v (.c (.fn 86 [(⟨(.int .i64), ((w.length : Int) + (1 : Int))⟩ : Dat)]))), (7, [], .v (.c (.own 5007))), (9, [], .v (.c (.ptr 9 0))), (10, [], .v (.c (.own 29))), (22, [], .v (.c (.p (.sl (.pr (.int .i64) (.pr (.int .i64) (.int .i64)))) l))), (23, [], .v (.c (.p (.int .i64) (l.length : Int)))), (24, [], .v (.c (.p (.int .i64) v24))), (117, [], .v (.c (.p (.int .i64) ((w.length : Int) + (1 : Int))))), (118, [], .v (.c (.p (.int .i64) v118))), (119, [], .v (.c (.p .bool (decide (v118 < ((w.length : Int) + (1 : Int)))))))], [(9, [], .box [.p (.int .i64) ((l.getD (v24).toNat ((0 : Int), ((0 : Int), (0 : Int)))).1), .p (.int .i64) ((l.getD (v24).toNat ((0 : Int), ((0 : Int), (0 : Int)))).2.1), .p (.int .i64) ((l.getD (v24).toNat ((0 : Int), ((0 : Int), (0 : Int)))).2.2)]), (29, [], .arr 39 (.int .u32) rv2), (5007, [], .arr 92 (.sl (.int .u32)) all)]⟩ : St)) (by kernel_rfl) ⟨trivial, trivial⟩ ?_
                              refine awl_nil ?_
                              refine thenQ_n ?_
                              refine aw_seq ?_
                              refine aw_cond (b := (decide (v118 < ((w.length : Int) + (1 : Int))))) (by kernel_rfl) (fun hb => ?_) (fun hb => ?_)
                              · have h := h.1 hb
                                refine aw_skip ?_
                                refine thenQ_n ?_
                                refine aw_seq ?_
                                refine aw_block ?_
                                refine aw_seq ?_
                                refine aw_region ?_
                                obtain ⟨o1, h⟩ := h
                                refine awl_runp 7 [1, 5, 6, 7, 9, 10, 22, 23, 24, 117, 118, 120, 121, 126] [9, 29, 5007] (ob := (True ∧ True ∧ True ∧ True ∧ True ∧ inIdx ((l.getD (v24).toNat ((0 : Int), ((0 : Int), (0 : Int)))).2.1) all.length ∧ True ∧ True)) (st' := (⟨155, [(1, [], .v (.c (.p (.sl (.int .i64)) w))), (5, [], .v (.c (.ad (.int .i64) ((w.length : Int) + (1 : Int))))), (6, [], .v (.c (.fn 86 [(⟨(.int .i64), ((w.length : Int) + (1 : Int))⟩ : Dat)]))), (7, [], .v (.c (.own 5007))), (9, [], .v (.c (.ptr 9 0))), (10, [], .v (.c (.own 29))), (22, [], .v (.c (.p (.sl (.pr (.int .i64) (.pr (.int .i64) (.int .i64)))) l))), (23, [], .v (.c (.p (.int .i64) (l.length : Int)))), (24, [], .v (.c (.p (.int .i64) v24))), (117, [], .v (.c (.p (.int .i64) ((w.length : Int) + (1 : Int))))), (118, [], .v (.c (.p (.int .i64) v118))), (120, [], .v (.c (.fn 86 [(⟨(.int .i64), ((w.length : Int) + (1 : Int))⟩ : Dat)]))), (121, [], .v (.c (.own 29))), (126, [], .v (.c (.p (.sl (.int .u32)) (all.getD (((l.getD (v24).toNat ((0 : Int), ((0 : Int), (0 : Int)))).2.1).toNat) ([] : (List Int))))))], [(9, [], .box [.p (.int .i64) ((l.getD (v24).toNat ((0 : Int), ((0 : Int), (0 : Int)))).1), .p (.int .i64) ((l.getD (v24).toNat ((0 : Int), ((0 : Int), (0 : Int)))).2.1), .p (.int .i64) ((l.getD (v24).toNat ((0 : Int), ((0 : Int), (0 : Int)))).2.2)]), (29, [], .arr 39 (.int .u32) rv2), (5007, [], .arr 92 (.sl (.int .u32)) all)]⟩ : St)) (by kernel_rfl) ⟨trivial, trivial, trivial, trivial, trivial, o1, trivial, trivial⟩ ?_
                                refine awl_callOk (e := 39) (t := (.int .u32)) (l := [toV1 (.sl (.int .u32)) rv2, toV1 (.sl (.int .u32)) (all.getD (((l.getD (v24).toNat ((0 : Int), ((0 : Int), (0 : Int)))).2.1).toNat) ([] : (List Int)))]) (cl := [.c (.ad (.int .i64) ((w.length : Int) + (1 : Int)))]) true [.d (.sl (.int .u32)), .d (.sl (.int .u32))] [1, 5, 6, 7, 9, 10, 22, 23, 24, 117, 118, 127] [9, 29, 127, 5007] (fun (ret127v : (List Int)) => Loop (σ := Int × (List Int)) (fun s X => VC46_l6 w v118 X5 ret127v s.1 s.2 X) ((0 : Int), rv2)) (fun ret127v => (⟨155, [(1, [], .v (.c (.p (.sl (.int .i64)) w))), (5, [], .v (.c (.ad (.int .i64) ((w.length : Int) + (1 : Int))))), (6, [], .v (.c (.fn 86 [(⟨(.int .i64), ((w.length : Int) + (1 : Int))⟩ : Dat)]))), (7, [], .v (.c (.own 5007))), (9, [], .v (.c (.ptr 9 0))), (10, [], .v (.c (.own 29))), (22, [], .v (.c (.p (.sl (.pr (.int .i64) (.pr (.int .i64) (.int .i64)))) l))), (23, [], .v (.c (.p (.int .i64) (l.length : Int)))), (24, [], .v (.c (.p (.int .i64) v24))), (117, [], .v (.c (.p (.int .i64) ((w.length : Int) + (1 : Int))))), (118, [], .v (.c (.p (.int .i64) v118))), (127, [], .v (.c (.own 127)))], [(9, [], .box [.p (.int .i64) ((l.getD (v24).toNat ((0 : Int), ((0 : Int), (0 : Int)))).1), .p (.int .i64) ((l.getD (v24).toNat ((0 : Int), ((0 : Int), (0 : Int)))).2.1), .p (.int .i64) ((l.getD (v24).toNat ((0 : Int), ((0 : Int), (0 : Int)))).2.2)]), (29, [], .arr 39 (.int .u32) rv2), (127, [], .arr 39 (.int .u32) ret127v), (5007, [], .arr 92 (.sl (.int .u32)) all)]⟩ : St)) rfl rfl (by kernel_rfl) rfl (by kernel_rfl) Try.call86 (by kernel_rfl) (fun _ => rfl) (fun ret127v => by kernel_rfl) (link86 rv2 (all.getD (((l.getD (v24).toNat ((0 : Int), ((0 : Int), (0 : Int)))).2.1).toNat) ([] : (List Int))) ((w.length : Int) + (1 : Int)) _ h) (fun ret127v h => ?_)
                                have h : Loop (σ := Int × (List Int)) (fun s X => VC46_l6 w v118 X5 ret127v s.1 s.2 X) ((0 : Int), rv2) := h
                                refine awl_runp 1 [1, 5, 6, 7, 9, 10, 16, 22, 23, 24, 117, 118] [9, 29, 127, 5007] (ob := (True ∧ True)) (st' := (⟨155, [(1, [], .v (.c (.p (.sl (.int .i64)) w))), (5, [], .v (.c (.ad (.int .i64) ((w.length : Int) + (1 : Int))))), (6, [], .v (.c (.fn 86 [(⟨(.int .i64), ((w.length : Int) + (1 : Int))⟩ : Dat)]))), (7, [], .v (.c (.own 5007))), (9, [], .v (.c (.ptr 9 0))), (10, [], .v (.c (.own 29))), (16, [], .v (.c (.own 127))), (22, [], .v (.c (.p (.sl (.pr (.int .i64) (.pr (.int .i64) (.int .i64)))) l))), (23, [], .v (.c (.p (.int .i64) (l.length : Int)))), (24, [], .v (.c (.p (.int .i64) v24))), (117, [], .v (.c (.p (.int .i64) ((w.length : Int) + (1 : Int))))), (118, [], .v (.c (.p (.int .i64) v118)))], [(9, [], .box [.p (.int .i64) ((l.getD (v24).toNat ((0 : Int), ((0 : Int), (0 : Int)))).1), .p (.int .i64) ((l.getD (v24).toNat ((0 : Int), ((0 : Int), (0 : Int)))).2.1), .p (.int .i64) ((l.getD (v24).toNat ((0 : Int), ((0 : Int), (0 : Int)))).2.2)]), (29, [], .arr 39 (.int .u32) rv2), (127, [], .arr 39 (.int .u32) ret127v), (5007, [], .arr 92 (.sl (.int .u32)) all)]⟩ : St)) (by kernel_rfl) ⟨trivial, trivial⟩ ?_
                                refine awl_nil ?_
                                refine thenQ_n ?_
                                refine aw_seq ?_
                                refine aw_region ?_
                                refine awl_runp 2 [1, 5, 6, 7, 9, 10, 16, 22, 23, 24, 117, 118, 128, 129] [9, 29, 127, 5007] (ob := (True ∧ True ∧ True)) (st' := (⟨155, [(1, [], .v (.c (.p (.sl (.int .i64)) w))), (5, [], .v (.c (.ad (.int .i64) ((w.length : Int) + (1 : Int))))), (6, [], .v (.c (.fn 86 [(⟨(.int .i64), ((w.length : Int) + (1 : Int))⟩ : Dat)]))), (7, [], .v (.c (.own 5007))), (9, [], .v (.c (.ptr 9 0))), (10, [], .v (.c (.own 29))), (16, [], .v (.c (.own 127))), (22, [], .v (.c (.p (.sl (.pr (.int .i64) (.pr (.int .i64) (.int .i64)))) l))), (23, [], .v (.c (.p (.int .i64) (l.length : Int)))), (24, [], .v (.c (.p (.int .i64) v24))), (117, [], .v (.c (.p (.int .i64) ((w.length : Int) + (1 : Int))))), (118, [], .v (.c (.p (.int .i64) v118))), (128, [], .v (.c (.p (.int .i64) ((w.length : Int) + (1 : Int))))), (129, [], .v (.c (.p (.int .i64) (0 : Int))))], [(9, [], .box [.p (.int .i64) ((l.getD (v24).toNat ((0 : Int), ((0 : Int), (0 : Int)))).1), .p (.int .i64) ((l.getD (v24).toNat ((0 : Int), ((0 : Int), (0 : Int)))).2.1), .p (.int .i64) ((l.getD (v24).toNat ((0 : Int), ((0 : Int), (0 : Int)))).2.2)]), (29, [], .arr 39 (.int .u32) rv2), (127, [], .arr 39 (.int .u32) ret127v), (5007, [], .arr 92 (.sl (.int .u32)) all)]⟩ : St)) (by kernel_rfl) ⟨trivial, trivial, trivial⟩ ?_
                                refine awl_nil ?_
                                refine thenQ_n ?_
                                refine withJoin (σ := (List Int)) (fun s => (⟨155, [(1, [], .v (.c (.p (.sl (.int .i64)) w))), (5, [], .v (.c (.ad (.int .i64) ((w.length : Int) + (1 : Int))))), (6, [], .v (.c (.fn 86 [(⟨(.int .i64), ((w.length : Int) + (1 : Int))⟩ : Dat)]))), (7, [], .v (.c (.own 5007))), (9, [], .v (.c (.ptr 9 0))), (10, [], .v (.c (.own 29))), (22, [], .v (.c (.p (.sl (.pr (.int .i64) (.pr (.int .i64) (.int .i64)))) l))), (23, [], .v (.c (.p (.int .i64) (l.length : Int)))), (24, [], .v (.c (.p (.int .i64) v24))), (117, [], .v (.c (.p (.int .i64) ((w.length : Int) + (1 : Int))))), (118, [], .v (.c (.p (.int .i64) v118)))], [(9, [], .box [.p (.int .i64) ((l.getD (v24).toNat ((0 : Int), ((0 : Int), (0 : Int)))).1), .p (.int .i64) ((l.getD (v24).toNat ((0 : Int), ((0 : Int), (0 : Int)))).2.1), .p (.int .i64) ((l.getD (v24).toNat ((0 : Int), ((0 : Int), (0 : Int)))).2.2)]), (29, [], .arr 39 (.int .u32) s), (5007, [], .arr 92 (.sl (.int .u32)) all)]⟩ : St)) (fun s => VC46_k13 v118 X5 s) (fun rv3 h => ?_) (fun rest12 => ?_)
                                · have h : VC46_k13 v118 X5 rv3 := h
                                  unfold VC46_k13 at h
                                  refine blockQ_n ?_
                                  refine thenQ_n ?_
                                  refine aw_region ?_
                                  obtain ⟨o1, h⟩ := h
                                  refine awl_runp 2 [1, 5, 6, 7, 9, 10, 22, 23, 24, 117, 118] [9, 29, 5007] (ob := (InR (v118 + (1 : Int)) ∧ True ∧ True)) (st' := (⟨155, [(1, [], .v (.c (.p (.sl (.int .i64)) w))), (5, [], .v (.c (.ad (.int .i64) ((w.length : Int) + (1 : Int))))), (6, [], .v (.c (.fn 86 [(⟨(.int .i64), ((w.length : Int) + (1 : Int))⟩ : Dat)]))), (7, [], .v (.c (.own 5007))), (9, [], .v (.c (.ptr 9 0))), (10, [], .v (.c (.own 29))), (22, [], .v (.c (.p (.sl (.pr (.int .i64) (.pr (.int .i64) (.int .i64)))) l))), (23, [], .v (.c (.p (.int .i64) (l.length : Int)))), (24, [], .v (.c (.p (.int .i64) v24))), (117, [], .v (.c (.p (.int .i64) ((w.length : Int) + (1 : Int))))), (118, [], .v (.c (.p (.int .i64) (v118 + (1 : Int)))))], [(9, [], .box [.p (.int .i64) ((l.getD (v24).toNat ((0 : Int), ((0 : Int), (0 : Int)))).1), .p (.int .i64) ((l.getD (v24).toNat ((0 : Int), ((0 : Int), (0 : Int)))).2.1), .p (.int .i64) ((l.getD (v24).toNat ((0 : Int), ((0 : Int), (0 : Int)))).2.2)]), (29, [], .arr 39 (.int .u32) rv3), (5007, [], .arr 92 (.sl (.int .u32)) all)]⟩ : St)) (by kernel_rfl) ⟨o1, trivial, trivial⟩ ?_
                                  refine awl_nil ?_
                                  exact thenQ_n ⟨((v118 + (1 : Int)), rv3), rfl, h⟩
                                · refine aw_block ?_
                                  refine aw_loop (σ := Int × (List Int)) (fun s => (⟨155, [(1, [], .v (.c (.p (.sl (.int .i64)) w))), (5, [], .v (.c (.ad (.int .i64) ((w.length : Int) + (1 : Int))))), (6, [], .v (.c (.fn 86 [(⟨(.int .i64), ((w.length : Int) + (1 : Int))⟩ : Dat)]))), (7, [], .v (.c (.own 5007))), (9, [], .v (.c (.ptr 9 0))), (10, [], .v (.c (.own 29))), (16, [], .v (.c (.own 127))), (22, [], .v (.c (.p (.sl (.pr (.int .i64) (.pr (.int .i64) (.int .i64)))) l))), (23, [], .v (.c (.p (.int .i64) (l.length : Int)))), (24, [], .v (.c (.p (.int .i64) v24))), (117, [], .v (.c (.p (.int .i64) ((w.length : Int) + (1 : Int))))), (118, [], .v (.c (.p (.int .i64) v118))), (128, [], .v (.c (.p (.int .i64) ((w.length : Int) + (1 : Int))))), (129, [], .v (.c (.p (.int .i64) s.1)))], [(9, [], .box [.p (.int .i64) ((l.getD (v24).toNat ((0 : Int), ((0 : Int), (0 : Int)))).1), .p (.int .i64) ((l.getD (v24).toNat ((0 : Int), ((0 : Int), (0 : Int)))).2.1), .p (.int .i64) ((l.getD (v24).toNat ((0 : Int), ((0 : Int), (0 : Int)))).2.2)]), (29, [], .arr 39 (.int .u32) s.2), (127, [], .arr 39 (.int .u32) ret127v), (5007, [], .arr 92 (.sl (.int .u32)) all)]⟩ : St)) (fun s X => VC46_l6 w v118 X5 ret127v s.1 s.2 X) (s0 := ((0 : Int), rv2)) (fun s X6 h => ?_) h
                                  obtain ⟨v129, rv3⟩ := s
                                  have h : VC46_l6 w v118 X5 ret127v v129 rv3 X6 := h
                                  unfold VC46_l6 at h
                                  refine aw_seq ?_
                                  refine aw_region ?_
                                  refine awl_runp 1 [1, 5, 6, 7, 9, 10, 16, 22, 23, 24, 117, 118, 128, 129, 130] [9, 29, 127, 5007] (ob := (True ∧ True)) (st' := (⟨155, [(1, [], .v (.c (.p (.sl (.int .i64)) w))), (5, [], .v (.c (.ad (.int .i64) ((w.length : Int) + (1 : Int))))), (6, [], .v (.c (.fn 86 [(⟨(.int .i64), ((w.length : Int) + (1 : Int))⟩ : Dat)]))), (7, [], .v (.c (.own 5007))), (9, [], .v (.c (.ptr 9 0))), (10, [], .v (.c (.own 29))), (16, [], .v (.c (.own 127))), (22, [], .v (.c (.p (.sl (.pr (.int .i64) (.pr (.int .i64) (.int .i64)))) l))), (23, [], .v (.c (.p (.int .i64) (l.length : Int)))), (24, [], .v (.c (.p (.int .i64) v24))), (117, [], .v (.c (.p (.int .i64) ((w.length : Int) + (1 : Int))))), (118, [], .v (.c (.p (.int .i64) v118))), (128, [], .v (.c (.p (.int .i64) ((w.length : Int) + (1 : Int))))), (129, [], .v (.c (.p (.int .i64) v129))), (130, [], .v (.c (.p .bool (decide (v129 < ((w.length : Int) + (1 : Int)))))))], [(9, [], .box [.p (.int .i64) ((l.getD (v24).toNat ((0 : Int), ((0 : Int), (0 : Int)))).1), .p (.int .i64) ((l.getD (v24).toNat ((0 : Int), ((0 : Int), (0 : Int)))).2.1), .p (.int .i64) ((l.getD (v24).toNat ((0 : Int), ((0 : Int), (0 : Int)))).2.2)]), (29, [], .arr 39 (.int .u32) rv3), (127, [], .arr 39 (.int .u32) ret127v), (5007, [], .arr 92 (.sl (.int .u32)) all)]⟩ : St)) (by kernel_rfl) ⟨trivial, trivial⟩ ?_
                                  refine awl_nil ?_
                                  refine thenQ_n ?_
                                  refine aw_seq ?_
                                  refine aw_cond (b := (decide (v129 < ((w.length : Int) + (1 : Int))))) (by kernel_rfl) (fun hb => ?_) (fun hb => ?_)
                                  · have h := h.1 hb
                                    refine aw_skip ?_
                                    refine thenQ_n ?_
                                    refine aw_seq ?_
                                    refine aw_block ?_
                                    refine aw_seq ?_
                                    refine aw_region ?_
                                    refine awl_runp 2 [1, 5, 6, 7, 9, 10, 16, 17, 22, 23, 24, 117, 118, 128, 129] [9, 29, 127, 5007] (ob := (True ∧ True ∧ True)) (st' := (⟨155, [(1, [], .v (.c (.p (.sl (.int .i64)) w))), (5, [], .v (.c (.ad (.int .i64) ((w.length : Int) + (1 : Int))))), (6, [], .v (.c (.fn 86 [(⟨(.int .i64), ((w.length : Int) + (1 : Int))⟩ : Dat)]))), (7, [], .v (.c (.own 5007))), (9, [], .v (.c (.ptr 9 0))), (10, [], .v (.c (.own 29))), (16, [], .v (.c (.own 127))), (17, [], .v (.c (.p (.int .i64) v129))), (22, [], .v (.c (.p (.sl (.pr (.int .i64) (.pr (.int .i64) (.int .i64)))) l))), (23, [], .v (.c (.p (.int .i64) (l.length : Int)))), (24, [], .v (.c (.p (.int .i64) v24))), (117, [], .v (.c (.p (.int .i64) ((w.length : Int) + (1 : Int))))), (118, [], .v (.c (.p (.int .i64) v118))), (128, [], .v (.c (.p (.int .i64) ((w.length : Int) + (1 : Int))))), (129, [], .v (.c (.p (.int .i64) v129)))], [(9, [], .box [.p (.int .i64) ((l.getD (v24).toNat ((0 : Int), ((0 : Int), (0 : Int)))).1), .p (.int .i64) ((l.getD (v24).toNat ((0 : Int), ((0 : Int), (0 : Int)))).2.1), .p (.int .i64) ((l.getD (v24).toNat ((0 : Int), ((0 : Int), (0 : Int)))).2.2)]), (29, [], .arr 39 (.int .u32) rv3), (127, [], .arr 39 (.int .u32) ret127v), (5007, [], .arr 92 (.sl (.int .u32)) all)]⟩ : St)) (by kernel_rfl) ⟨trivial, trivial, trivial⟩ ?_
                                    refine awl_nil ?_
                                    refine thenQ_n ?_
                                    refine awd_begin [29] (by kernel_rfl) ?_
                                    obtain ⟨o1, o2, h⟩ := h
                                    refine awd_runp (by kernel_rfl) [0, 1, 2, 4, 5, 6, 7] [1, 5, 6, 7, 9, 10, 16, 22, 23, 24, 117, 118, 128, 129, 132, 133, 134, 139] [9, 29, 127, 5007] (ob := (True ∧ True ∧ inIdx v129 rv3.length ∧ True ∧ True ∧ inIdx v129 ret127v.length ∧ True ∧ True)) (done' := [7, 6, 5, 4, 2, 1, 0]) (st' := (⟨155, [(1, [], .v (.c (.p (.sl (.int .i64)) w))), (5, [], .v (.c (.ad (.int .i64) ((w.length : Int) + (1 : Int))))), (6, [], .v (.c (.fn 86 [(⟨(.int .i64), ((w.length : Int) + (1 : Int))⟩ : Dat)]))), (7, [], .v (.c (.own 5007))), (9, [], .v (.c (.ptr 9 0))), (10, [], .v (.c (.own 29))), (16, [], .v (.c (.own 127))), (22, [], .v (.c (.p (.sl (.pr (.int .i64) (.pr (.int .i64) (.int .i64)))) l))), (23, [], .v (.c (.p (.int .i64) (l.length : Int)))), (24, [], .v (.c (.p (.int .i64) v24))), (117, [], .v (.c (.p (.int .i64) ((w.length : Int) + (1 : Int))))), (118, [], .v (.c (.p (.int .i64) v118))), (128, [], .v (.c (.p (.int .i64) ((w.length : Int) + (1 : Int))))), (129, [], .v (.c (.p (.int .i64) v129))), (132, [], .v (.c (.own 29))), (133, [], .v (.c (.p (.int .i64) v129))), (134, [], .v (.c (.el 29 ((v129).toNat) 1))), (139, [], .v (.c (.p (.int .u32) (ret127v.getD ((v129).toNat) (0 : Int)))))], [(9, [], .box [.p (.int .i64) ((l.getD (v24).toNat ((0 : Int), ((0 : Int), (0 : Int)))).1), .p (.int .i64) ((l.getD (v24).toNat ((0 : Int), ((0 : Int), (0 : Int)))).2.1), .p (.int .i64) ((l.getD (v24).toNat ((0 : Int), ((0 : Int), (0 : Int)))).2.2)]), (29, [], .arr 39 (.int .u32) rv3), (127, [], .arr 39 (.int .u32) ret127v), (5007, [], .arr 92 (.sl (.int .u32)) all)]⟩ : St)) (by kernel_rfl) ⟨trivial, trivial, o1, trivial, trivial, o2, trivial, trivial⟩ ?_
                                    refine awd_one (i := 3) (by kernel_rfl) ?_
                                    refine adop_stepp [1, 5, 6, 7, 9, 10, 16, 22, 23, 24, 117, 118, 128, 129, 132, 133, 135, 139] [9, 29, 127, 5007] (ob := True) (st' := (⟨155, [(1, [], .v (.c (.p (.sl (.int .i64)) w))), (5, [], .v (.c (.ad (.int .i64) ((w.length : Int) + (1 : Int))))), (6, [], .v (.c (.fn 86 [(⟨(.int .i64), ((w.length : Int) + (1 : Int))⟩ : Dat)]))), (7, [], .v (.c (.own 5007))), (9, [], .v (.c (.ptr 9 0))), (10, [], .v (.c (.own 29))), (16, [], .v (.c (.own 127))), (22, [], .v (.c (.p (.sl (.pr (.int .i64) (.pr (.int .i64) (.int .i64)))) l))), (23, [], .v (.c (.p (.int .i64) (l.length : Int)))), (24, [], .v (.c (.p (.int .i64) v24))), (117, [], .v (.c (.p (.int .i64) ((w.length : Int) + (1 : Int))))), (118, [], .v (.c (.p (.int .i64) v118))), (128, [], .v (.c (.p (.int .i64) ((w.length : Int) + (1 : Int))))), (129, [], .v (.c (.p (.int .i64) v129))), (132, [], .v (.c (.own 29))), (133, [], .v (.c (.p (.int .i64) v129))), (135, [], .v (.c (.p (.int .u32) (rv3.getD ((v129).toNat) (0 : Int))))), (139, [], .v (.c (.p (.int .u32) (ret127v.getD ((v129).toNat) (0 : Int)))))], [(9, [], .box [.p (.int .i64) ((l.getD (v24).toNat ((0 : Int), ((0 : Int), (0 : Int)))).1), .p (.int .i64) ((l.getD (v24).toNat ((0 : Int), ((0 : Int), (0 : Int)))).2.1), .p (.int .i64) ((l.getD (v24).toNat ((0 : Int), ((0 : Int), (0 : Int)))).2.2)]), (29, [], .arr 39 (.int .u32) rv3), (127, [], .arr 39 (.int .u32) ret127v), (5007, [], .arr 92 (.sl (.int .u32)) all)]⟩ : St)) rfl (by kernel_rfl) trivial ?_
                                    obtain ⟨o1, h⟩ := h
                                    refine awd_runp (by kernel_rfl) [8, 9] [1, 5, 6, 7, 9, 10, 16, 22, 23, 24, 117, 118, 128, 129, 140, 141] [9, 29, 127, 5007] (ob := (True ∧ inIdx v129 rv3.length ∧ True)) (done' := [9, 8, 3, 7, 6, 5, 4, 2, 1, 0]) (st' := (⟨155, [(1, [], .v (.c (.p (.sl (.int .i64)) w))), (5, [], .v (.c (.ad (.int .i64) ((w.length : Int) + (1 : Int))))), (6, [], .v (.c (.fn 86 [(⟨(.int .i64), ((w.length : Int) + (1 : Int))⟩ : Dat)]))), (7, [], .v (.c (.own 5007))), (9, [], .v (.c (.ptr 9 0))), (10, [], .v (.c (.own 29))), (16, [], .v (.c (.own 127))), (22, [], .v (.c (.p (.sl (.pr (.int .i64) (.pr (.int .i64) (.int .i64)))) l))), (23, [], .v (.c (.p (.int .i64) (l.length : Int)))), (24, [], .v (.c (.p (.int .i64) v24))), (117, [], .v (.c (.p (.int .i64) ((w.length : Int) + (1 : Int))))), (118, [], .v (.c (.p (.int .i64) v118))), (128, [], .v (.c (.p (.int .i64) ((w.length : Int) + (1 : Int))))), (129, [], .v (.c (.p (.int .i64) v129))), (140, [], .v (.c (.p (.int .u32) (bOr .u32 (rv3.getD ((v129).toNat) (0 : Int)) (ret127v.getD ((v129).toNat) (0 : Int)))))), (141, [], .v (.c (.el 29 ((v129).toNat) 1)))], [(9, [], .box [.p (.int .i64) ((l.getD (v24).toNat ((0 : Int), ((0 : Int), (0 : Int)))).1), .p (.int .i64) ((l.getD (v24).toNat ((0 : Int), ((0 : Int), (0 : Int)))).2.1), .p (.int .i64) ((l.getD (v24).toNat ((0 : Int), ((0 : Int), (0 : Int)))).2.2)]), (29, [], .arr 39 (.int .u32) rv3), (127, [], .arr 39 (.int .u32) ret127v), (5007, [], .arr 92 (.sl (.int .u32)) all)]⟩ : St)) (by kernel_rfl) ⟨trivial, o1, trivial⟩ ?_
                                    refine awd_one (i := 10) (by kernel_rfl) ?_
                                    refine adop_stepp [1, 5, 6, 7, 9, 10, 16, 22, 23, 24, 117, 118, 128, 129] [9, 29, 127, 5007] (ob := True) (st' := (⟨155, [(1, [], .v (.c (.p (.sl (.int .i64)) w))), (5, [], .v (.c (.ad (.int .i64) ((w.length : Int) + (1 : Int))))), (6, [], .v (.c (.fn 86 [(⟨(.int .i64), ((w.length : Int) + (1 : Int))⟩ : Dat)]))), (7, [], .v (.c (.own 5007))), (9, [], .v (.c (.ptr 9 0))), (10, [], .v (.c (.own 29))), (16, [], .v (.c (.own 127))), (22, [], .v (.c (.p (.sl (.pr (.int .i64) (.pr (.int .i64) (.int .i64)))) l))), (23, [], .v (.c (.p (.int .i64) (l.length : Int)))), (24, [], .v (.c (.p (.int .i64) v24))), (117, [], .v (.c (.p (.int .i64) ((w.length : Int) + (1 : Int))))), (118, [], .v (.c (.p (.int .i64) v118))), (128, [], .v (.c (.p (.int .i64) ((w.length : Int) + (1 : Int))))), (129, [], .v (.c (.p (.int .i64) v129)))], [(9, [], .box [.p (.int .i64) ((l.getD (v24).toNat ((0 : Int), ((0 : Int), (0 : Int)))).1), .p (.int .i64) ((l.getD (v24).toNat ((0 : Int), ((0 : Int), (0 : Int)))).2.1), .p (.int .i64) ((l.getD (v24).toNat ((0 : Int), ((0 : Int), (0 : Int)))).2.2)]), (29, [], .arr 39 (.int .u32) (rv3.set ((v129).toNat) (bOr .u32 (rv3.getD ((v129).toNat) (0 : Int)) (ret127v.getD ((v129).toNat) (0 : Int))))), (127, [], .arr 39 (.int .u32) ret127v), (5007, [], .arr 92 (.sl (.int .u32)) all)]⟩ : St)) rfl (by kernel_rfl) trivial ?_
                                    refine awd_done (by kernel_rfl) ?_
                                    refine blockQ_n ?_
                                    refine thenQ_n ?_
                                    refine aw_region ?_
                                    obtain ⟨o1, h⟩ := h
                                    refine awl_runp 2 [1, 5, 6, 7, 9, 10, 16, 22, 23, 24, 117, 118, 128, 129] [9, 29, 127, 5007] (ob := (InR (v129 + (1 : Int)) ∧ True ∧ True)) (st' := (⟨155, [(1, [], .v (.c (.p (.sl (.int .i64)) w))), (5, [], .v (.c (.ad (.int .i64) ((w.length : Int) + (1 : Int))))), (6, [], .v (.c (.fn 86 [(⟨(.int .i64), ((w.length : Int) + (1 : Int))⟩ : Dat)]))), (7, [], .v (.c (.own 5007))), (9, [], .v (.c (.ptr 9 0))), (10, [], .v (.c (.own 29))), (16, [], .v (.c (.own 127))), (22, [], .v (.c (.p (.sl (.pr (.int .i64) (.pr (.int .i64) (.int .i64)))) l))), (23, [], .v (.c (.p (.int .i64) (l.length : Int)))), (24, [], .v (.c (.p (.int .i64) v24))), (117, [], .v (.c (.p (.int .i64) ((w.length : Int) + (1 : Int))))), (118, [], .v (.c (.p (.int .i64) v118))), (128, [], .v (.c (.p (.int .i64) ((w.length : Int) + (1 : Int))))), (129, [], .v (.c (.p (.int .i64) (v129 + (1 : Int)))))], [(9, [], .box [.p (.int .i64) ((l.getD (v24).toNat ((0 : Int), ((0 : Int), (0 : Int)))).1), .p (.int .i64) ((l.getD (v24).toNat ((0 : Int), ((0 : Int), (0 : Int)))).2.1), .p (.int .i64) ((l.getD (v24).toNat ((0 : Int), ((0 : Int), (0 : Int)))).2.2)]), (29, [], .arr 39 (.int .u32) (rv3.set ((v129).toNat) (bOr .u32 (rv3.getD ((v129).toNat) (0 : Int)) (ret127v.getD ((v129).toNat) (0 : Int))))), (127, [], .arr 39 (.int .u32) ret127v), (5007, [], .arr 92 (.sl (.int .u32)) all)]⟩ : St)) (by kernel_rfl) ⟨o1, trivial, trivial⟩ ?_
                                    refine awl_nil ?_
                                    exact thenQ_n ⟨((v129 + (1 : Int)), (rv3.set ((v129).toNat) (bOr .u32 (rv3.getD ((v129).toNat) (0 : Int)) (ret127v.getD ((v129).toNat) (0 : Int))))), rfl, h⟩
                                  · have h := h.2 hb
                                    refine aw_conv [.prune [1, 5, 6, 7, 9, 10, 22, 23, 24, 117, 118] [9, 29, 5007]] (st' := (⟨155, [(1, [], .v (.c (.p (.sl (.int .i64)) w))), (5, [], .v (.c (.ad (.int .i64) ((w.length : Int) + (1 : Int))))), (6, [], .v (.c (.fn 86 [(⟨(.int .i64), ((w.length : Int) + (1 : Int))⟩ : Dat)]))), (7, [], .v (.c (.own 5007))), (9, [], .v (.c (.ptr 9 0))), (10, [], .v (.c (.own 29))), (22, [], .v (.c (.p (.sl (.pr (.int .i64) (.pr (.int .i64) (.int .i64)))) l))), (23, [], .v (.c (.p (.int .i64) (l.length : Int)))), (24, [], .v (.c (.p (.int .i64) v24))), (117, [], .v (.c (.p (.int .i64) ((w.length : Int) + (1 : Int))))), (118, [], .v (.c (.p (.int .i64) v118)))], [(9, [], .box [.p (.int .i64) ((l.getD (v24).toNat ((0 : Int), ((0 : Int), (0 : Int)))).1), .p (.int .i64) ((l.getD (v24).toNat ((0 : Int), ((0 : Int), (0 : Int)))).2.1), .p (.int .i64) ((l.getD (v24).toNat ((0 : Int), ((0 : Int), (0 : Int)))).2.2)]), (29, [], .arr 39 (.int .u32) rv3), (5007, [], .arr 92 (.sl (.int .u32)) all)]⟩ : St)) (by kernel_rfl) ?_
                                    refine aw_exit ?_
                                    refine thenQ_x ?_
                                    refine thenQ_x ?_
                                    refine blockQ_hit ?_
                                    exact rest12 rv3 h
                              · have h := h.2 hb
                                refine aw_conv [.prune [1, 5, 6, 7, 10, 22, 23, 24] [29, 5007]] (st' := (⟨155, [(1, [], .v (.c (.p (.sl (.int .i64)) w))), (5, [], .v (.c (.ad (.int .i64) ((w.length : Int) + (1 : Int))))), (6, [], .v (.c (.fn 86 [(⟨(.int .i64), ((w.length : Int) + (1 : Int))⟩ : Dat)]))), (7, [], .v (.c (.own 5007))), (10, [], .v (.c (.own 29))), (22, [], .v (.c (.p (.sl (.pr (.int .i64) (.pr (.int .i64) (.int .i64)))) l))), (23, [], .v (.c (.p (.int .i64) (l.length : Int)))), (24, [], .v (.c (.p (.int .i64) v24)))], [(29, [], .arr 39 (.int .u32) rv2), (5007, [], .arr 92 (.sl (.int .u32)) all)]⟩ : St)) (by kernel_rfl) ?_
                                refine aw_exit ?_
                                refine thenQ_x ?_
                                refine thenQ_x ?_
                                refine blockQ_hit ?_
                                exact rest11 rv2 h
                          · refine aw_block ?_
                            refine aw_loop (σ := Int × (List Int)) (fun s => (⟨155, [(1, [], .v (.c (.p (.sl (.int .i64)) w))), (5, [], .v (.c (.ad (.int .i64) ((w.length : Int) + (1 : Int))))), (6, [], .v (.c (.fn 86 [(⟨(.int .i64), ((w.length : Int) + (1 : Int))⟩ : Dat)]))), (7, [], .v (.c (.own 5007))), (9, [], .v (.c (.ptr 9 0))), (10, [], .v (.c (.own 29))), (22, [], .v (.c (.p (.sl (.pr (.int .i64) (.pr (.int .i64) (.int .i64)))) l))), (23, [], .v (.c (.p (.int .i64) (l.length : Int)))), (24, [], .v (.c (.p (.int .i64) v24))), (107, [], .v (.c (.p (.int .i64) ((w.length : Int) + (1 : Int))))), (108, [], .v (.c (.p (.int .i64) s.1)))], [(9, [], .box [.p (.int .i64) ((l.getD (v24).toNat ((0 : Int), ((0 : Int), (0 : Int)))).1), .p (.int .i64) ((l.getD (v24).toNat ((0 : Int), ((0 : Int), (0 : Int)))).2.1), .p (.int .i64) ((l.getD (v24).toNat ((0 : Int), ((0 : Int), (0 : Int)))).2.2)]), (29, [], .arr 39 (.int .u32) s.2), (5007, [], .arr 92 (.sl (.int .u32)) all)]⟩ : St)) (fun s X => VC46_l7 l w v24 all X1 s.1 s.2 X) (s0 := ((0 : Int), (List.replicate (((w.length : Int) + (1 : Int))).toNat (0 : Int)))) (fun s X7 h => ?_) h
                            obtain ⟨v108, rv⟩ := s
                            have h : VC46_l7 l w v24 all X1 v108 rv X7 := h
                            unfold VC46_l7 at h
                            refine aw_seq ?_
                            refine aw_region ?_
                            refine awl_runp 1 [1, 5, 6, 7, 9, 10, 22, 23, 24, 107, 108, 109] [9, 29, 5007] (ob := (True ∧ True)) (st' := (⟨155, [(1, [], .v (.c (.p (.sl (.int .i64)) w))), (5, [], .v (.c (.ad (.int .i64) ((w.length : Int) + (1 : Int))))), (6, [], .v (.c (.fn 86 [(⟨(.int .i64), ((w.length : Int) + (1 : Int))⟩ : Dat)]))), (7, [], .v (.c (.own 5007))), (9, [], .v (.c (.ptr 9 0))), (10, [], .v (.c (.own 29))), (22, [], .v (.c (.p (.sl (.pr (.int .i64) (.pr (.int .i64) (.int .i64)))) l))), (23, [], .v (.c (.p (.int .i64) (l.length : Int)))), (24, [], .v (.c (.p (.int .i64) v24))), (107, [], .v (.c (.p (.int .i64) ((w.length : Int) + (1 : Int))))), (108, [], .v (.c (.p (.int .i64) v108))), (109, [], .v (.c (.p .bool (decide (v108 < ((w.length : Int) + (1 : Int)))))))], [(9, [], .box [.p (.int .i64) ((l.getD (v24).toNat ((0 : Int), ((0 : Int), (0 : Int)))).1), .p (.int .i64) ((l.getD (v24).toNat ((0 : Int), ((0 : Int), (0 : Int)))).2.1), .p (.int .i64) ((l.getD (v24).toNat ((0 : Int), ((0 : Int), (0 : Int)))).2.2)]), (29, [], .arr 39 (.int .u32) rv), (5007, [], .arr 92 (.sl (.int .u32)) all)]⟩ : St)) (by kernel_rfl) ⟨trivial, trivial⟩ ?_
                            refine awl_nil ?_
                            refine thenQ_n ?_
                            refine aw_seq ?_
                            refine aw_cond (b := (decide (v108 < ((w.length : Int) + (1 : Int))))) (by kernel_rfl) (fun hb => ?_) (fun hb => ?_)
                            · have h := h.1 hb
                              refine aw_skip ?_
                              refine thenQ_n ?_
                              refine aw_seq ?_
                              refine aw_block ?_
                              refine aw_seq ?_
                              refine aw_region ?_
                              refine awl_runp 2 [1, 5, 6, 7, 9, 10, 15, 22, 23, 24, 107, 108] [9, 29, 5007] (ob := (True ∧ True ∧ True)) (st' := (⟨155, [(1, [], .v (.c (.p (.sl (.int .i64)) w))), (5, [], .v (.c (.ad (.int .i64) ((w.length : Int) + (1 : Int))))), (6, [], .v (.c (.fn 86 [(⟨(.int .i64), ((w.length : Int) + (1 : Int))⟩ : Dat)]))), (7, [], .v (.c (.own 5007))), (9, [], .v (.c (.ptr 9 0))), (10, [], .v (.c (.own 29))), (15, [], .v (.c (.p (.int .i64) v108))), (22, [], .v (.c (.p (.sl (.pr (.int .i64) (.pr (.int .i64) (.int .i64)))) l))), (23, [], .v (.c (.p (.int .i64) (l.length : Int)))), (24, [], .v (.c (.p (.int .i64) v24))), (107, [], .v (.c (.p (.int .i64) ((w.length : Int) + (1 : Int))))), (108, [], .v (.c (.p (.int .i64) v108)))], [(9, [], .box [.p (.int .i64) ((l.getD (v24).toNat ((0 : Int), ((0 : Int), (0 : Int)))).1), .p (.int .i64) ((l.getD (v24).toNat ((0 : Int), ((0 : Int), (0 : Int)))).2.1), .p (.int .i64) ((l.getD (v24).toNat ((0 : Int), ((0 : Int), (0 : Int)))).2.2)]), (29, [], .arr 39 (.int .u32) rv), (5007, [], .arr 92 (.sl (.int .u32)) all)]⟩ : St)) (by kernel_rfl) ⟨trivial, trivial, trivial⟩ ?_
                              refine awl_nil ?_
                              refine thenQ_n ?_
                              refine aw_region ?_
                              obtain ⟨o1, o2, h⟩ := h
                              refine awl_runp 6 [1, 5, 6, 7, 9, 10, 22, 23, 24, 107, 108] [9, 29, 5007] (ob := (True ∧ True ∧ True ∧ 0 ≤ v108 ∧ inIdx v108 rv.length ∧ True ∧ True)) (st' := (⟨155, [(1, [], .v (.c (.p (.sl (.int .i64)) w))), (5, [], .v (.c (.ad (.int .i64) ((w.length : Int) + (1 : Int))))), (6, [], .v (.c (.fn 86 [(⟨(.int .i64), ((w.length : Int) + (1 : Int))⟩ : Dat)]))), (7, [], .v (.c (.own 5007))), (9, [], .v (.c (.ptr 9 0))), (10, [], .v (.c (.own 29))), (22, [], .v (.c (.p (.sl (.pr (.int .i64) (.pr (.int .i64) (.int .i64)))) l))), (23, [], .v (.c (.p (.int .i64) (l.length : Int)))), (24, [], .v (.c (.p (.int .i64) v24))), (107, [], .v (.c (.p (.int .i64) ((w.length : Int) + (1 : Int))))), (108, [], .v (.c (.p (.int .i64) v108)))], [(9, [], .box [.p (.int .i64) ((l.getD (v24).toNat ((0 : Int), ((0 : Int), (0 : Int)))).1), .p (.int .i64) ((l.getD (v24).toNat ((0 : Int), ((0 : Int), (0 : Int)))).2.1), .p (.int .i64) ((l.getD (v24).toNat ((0 : Int), ((0 : Int), (0 : Int)))).2.2)]), (29, [], .arr 39 (.int .u32) (rv.set ((v108).toNat) (bShl .u32 (1 : Int) v108))), (5007, [], .arr 92 (.sl (.int .u32)) all)]⟩ : St)) (by kernel_rfl) ⟨trivial, trivial, trivial, o1, o2, trivial, trivial⟩ ?_
                              refine awl_nil ?_
                              refine blockQ_n ?_
                              refine thenQ_n ?_
                              refine aw_region ?_
                              obtain ⟨o1, h⟩ := h
                              refine awl_runp 2 [1, 5, 6, 7, 9, 10, 22, 23, 24, 107, 108] [9, 29, 5007] (ob := (InR (v108 + (1 : Int)) ∧ True ∧ True)) (st' := (⟨155, [(1, [], .v (.c (.p (.sl (.int .i64)) w))), (5, [], .v (.c (.ad (.int .i64) ((w.length : Int) + (1 : Int))))), (6, [], .v (.c (.fn 86 [(⟨(.int .i64), ((w.length : Int) + (1 : Int))⟩ : Dat)]))), (7, [], .v (.c (.own 5007))), (9, [], .v (.c (.ptr 9 0))), (10, [], .v (.c (.own 29))), (22, [], .v (.c (.p (.sl (.pr (.int .i64) (.pr (.int .i64) (.int .i64)))) l))), (23, [], .v (.c (.p (.int .i64) (l.length : Int)))), (24, [], .v (.c (.p (.int .i64) v24))), (107, [], .v (.c (.p (.int .i64) ((w.length : Int) + (1 : Int))))), (108, [], .v (.c (.p (.int .i64) (v108 + (1 : Int)))))], [(9, [], .box [.p (.int .i64) ((l.getD (v24).toNat ((0 : Int), ((0 : Int), (0 : Int)))).1), .p (.int .i64) ((l.getD (v24).toNat ((0 : Int), ((0 : Int), (0 : Int)))).2.1), .p (.int .i64) ((l.getD (v24).toNat ((0 : Int), ((0 : Int), (0 : Int)))).2.2)]), (29, [], .arr 39 (.int .u32) (rv.set ((v108).toNat) (bShl .u32 (1 : Int) v108))), (5007, [], .arr 92 (.sl (.int .u32)) all)]⟩ : St)) (by kernel_rfl) ⟨o1, trivial, trivial⟩ ?_
                              refine awl_nil ?_
                              exact thenQ_n ⟨((v108 + (1 : Int)), (rv.set ((v108).toNat) (bShl .u32 (1 : Int) v108))), rfl, h⟩
                            · have h := h.2 hb
                              refine aw_conv [.prune [1, 5, 6, 7, 9, 10, 22, 23, 24] [9, 29, 5007]] (st' := (⟨155, [(1, [], .v (.c (.p (.sl (.int .i64)) w))), (5, [], .v (.c (.ad (.int .i64) ((w.length : Int) + (1 : Int))))), (6, [], .v (.c (.fn 86 [(⟨(.int .i64), ((w.length : Int) + (1 : Int))⟩ : Dat)]))), (7, [], .v (.c (.own 5007))), (9, [], .v (.c (.ptr 9 0))), (10, [], .v (.c (.own 29))), (22, [], .v (.c (.p (.sl (.pr (.int .i64) (.pr (.int .i64) (.int .i64)))) l))), (23, [], .v (.c (.p (.int .i64) (l.length : Int)))), (24, [], .v (.c (.p (.int .i64) v24)))], [(9, [], .box [.p (.int .i64) ((l.getD (v24).toNat ((0 : Int), ((0 : Int), (0 : Int)))).1), .p (.int .i64) ((l.getD (v24).toNat ((0 : Int), ((0 : Int), (0 : Int)))).2.1), .p (.int .i64) ((l.getD (v24).toNat ((0 : Int), ((0 : Int), (0 : Int)))).2.2)]), (29, [], .arr 39 (.int .u32) rv), (5007, [], .arr 92 (.sl (.int .u32)) all)]⟩ : St)) (by kernel_rfl) ?_
                              refine aw_exit ?_
                              refine thenQ_x ?_
                              refine thenQ_x ?_
                              refine blockQ_hit ?_
                              exact rest13 rv h
                        · have h := h.2 hb
                          refine aw_conv [.prune [1, 5, 6, 7, 10, 22, 23, 24] [29, 5007]] (st' := (⟨155, [(1, [], .v (.c (.p (.sl (.int .i64)) w))), (5, [], .v (.c (.ad (.int .i64) ((w.length : Int) + (1 : Int))))), (6, [], .v (.c (.fn 86 [(⟨(.int .i64), ((w.length : Int) + (1 : Int))⟩ : Dat)]))), (7, [], .v (.c (.own 5007))), (10, [], .v (.c (.own 29))), (22, [], .v (.c (.p (.sl (.pr (.int .i64) (.pr (.int .i64) (.int .i64)))) l))), (23, [], .v (.c (.p (.int .i64) (l.length : Int)))), (24, [], .v (.c (.p (.int .i64) v24)))], [(29, [], .arr 39 (.int .u32) (List.replicate (((w.length : Int) + (1 : Int))).toNat (0 : Int))), (5007, [], .arr 92 (.sl (.int .u32)) all)]⟩ : St)) (by kernel_rfl) ?_
                          refine aw_skip ?_
                          exact rest10 (List.replicate (((w.length : Int) + (1 : Int))).toNat (0 : Int)) h
    · have h := h.2 hb
      refine aw_conv [.prune [7] [5007]] (st' := (⟨155, [(7, [], .v (.c (.own 5007)))], [(5007, [], .arr 92 (.sl (.int .u32)) all)]⟩ : St)) (by kernel_rfl) ?_
      refine aw_exit ?_
      refine thenQ_x ?_
      refine thenQ_x ?_
      refine blockQ_hit ?_
      exact rest1 all h

-- coppicer/sentence.Takes
def VC23 (k : Int) (l : (List (Int × (Int × Int)))) (w : (List Int)) (K : Bool × Int → Prop) : Prop :=
  VC45 k l (fun (ret12v : Int) => (((!decide (ret12v = (0 : Int))) = true → K (false, ret12v)) ∧ ((!decide (ret12v = (0 : Int))) = false → VC40 k w (fun (ret18v : Int) => (((!decide (ret18v = (0 : Int))) = true → K (false, ret18v)) ∧ ((!decide (ret18v = (0 : Int))) = false → VC46 l w (fun (ret24v : (List Int)) => (inIdx (0 : Int) ret24v.length ∧ VC44 (ret24v.getD ((0 : Int)).toNat (0 : Int)) (w.length : Int) (fun (ret29v : Bool) => K (ret29v, (0 : Int)))))))))))

set_option maxHeartbeats 4000000 in
theorem link23 (k : Int) (l : (List (Int × (Int × Int)))) (w : (List Int)) (K : Bool × Int → Prop) (h : VC23 k l w K) : ACalls Try.prog 23 [toV1 (.int .i64) k, toV1 (.sl (.pr (.int .i64) (.pr (.int .i64) (.int .i64)))) l, toV1 (.sl (.int .i64)) w] (fun res => ∃ y, res = (fun y => [toV1 .bool y.1, toV1 (.int .i64) y.2]) y ∧ K y) := by
  refine acalls_of_aw [.bool, (.int .i64)] [.t 6, .t 7] Try.func23 rfl rfl rfl ?_
  unfold VC23 at h
  refine aw_seq ?_
  refine aw_region ?_
  refine awl_runp 2 [0, 1, 2] [] (ob := (True ∧ True ∧ True)) (st' := (⟨30, [(0, [], .v (.c (.p (.int .i64) k))), (1, [], .v (.c (.p (.sl (.pr (.int .i64) (.pr (.int .i64) (.int .i64)))) l))), (2, [], .v (.c (.p (.sl (.int .i64)) w)))], []⟩ : St)) (by kernel_rfl) ⟨trivial, trivial, trivial⟩ ?_
  refine awl_nil ?_
  refine thenQ_n ?_
  refine aw_seq ?_
  refine aw_seq ?_
  refine aw_region ?_
  refine awl_runp 2 [0, 1, 2, 10, 11] [] (ob := (True ∧ True ∧ True)) (st' := (⟨30, [(0, [], .v (.c (.p (.int .i64) k))), (1, [], .v (.c (.p (.sl (.pr (.int .i64) (.pr (.int .i64) (.int .i64)))) l))), (2, [], .v (.c (.p (.sl (.int .i64)) w))), (10, [], .v (.c (.p (.int .i64) k))), (11, [], .v (.c (.p (.sl (.pr (.int .i64) (.pr (.int .i64) (.int .i64)))) l)))], []⟩ : St)) (by kernel_rfl) ⟨trivial, trivial, trivial⟩ ?_
  refine awl_callk (p := []) (l := [toV1 (.int .i64) k, toV1 (.sl (.pr (.int .i64) (.pr (.int .i64) (.int .i64)))) l]) (cl := []) false [.d (.int .i64), .d (.sl (.pr (.int .i64) (.pr (.int .i64) (.int .i64))))] [0, 1, 2, 12] [] (fun (ret12v : Int) => (((!decide (ret12v = (0 : Int))) = true → K (false, ret12v)) ∧ ((!decide (ret12v = (0 : Int))) = false → VC40 k w (fun (ret18v : Int) => (((!decide (ret18v = (0 : Int))) = true → K (false, ret18v)) ∧ ((!decide (ret18v = (0 : Int))) = false → VC46 l w (fun (ret24v : (List Int)) => (inIdx (0 : Int) ret24v.length ∧ VC44 (ret24v.getD ((0 : Int)).toNat (0 : Int)) (w.length : Int) (fun (ret29v : Bool) => K (ret29v, (0 : Int))))))))))) (fun ret12v => [toV1 (.int .i64) ret12v]) (fun ret12v => (⟨30, [(0, [], .v (.c (.p (.int .i64) k))), (1, [], .v (.c (.p (.sl (.pr (.int .i64) (.pr (.int .i64) (.int .i64)))) l))), (2, [], .v (.c (.p (.sl (.int .i64)) w))), (12, [], .v (.c (.p (.int .i64) ret12v)))], []⟩ : St)) (by kernel_rfl) rfl (by kernel_rfl) rfl (by kernel_rfl) Try.call45 (by kernel_rfl) (fun ret12v => by kernel_rfl) (fun e => by cases e) (fun hg => link45 k l _ h) (fun hg => noF hg) (fun ret12v h => ?_)
  have h : (((!decide (ret12v = (0 : Int))) = true → K (false, ret12v)) ∧ ((!decide (ret12v = (0 : Int))) = false → VC40 k w (fun (ret18v : Int) => (((!decide (ret18v = (0 : Int))) = true → K (false, ret18v)) ∧ ((!decide (ret18v = (0 : Int))) = false → VC46 l w (fun (ret24v : (List Int)) => (inIdx (0 : Int) ret24v.length ∧ VC44 (ret24v.getD ((0 : Int)).toNat (0 : Int)) (w.length : Int) (fun (ret29v : Bool) => K (ret29v, (0 : Int)))))))))) := h
  refine awl_runp 1 [0, 1, 2, 8] [] (ob := (True ∧ True)) (st' := (⟨30, [(0, [], .v (.c (.p (.int .i64) k))), (1, [], .v (.c (.p (.sl (.pr (.int .i64) (.pr (.int .i64) (.int .i64)))) l))), (2, [], .v (.c (.p (.sl (.int .i64)) w))), (8, [], .v (.c (.p (.int .i64) ret12v)))], []⟩ : St)) (by kernel_rfl) ⟨trivial, trivial⟩ ?_
  refine awl_nil ?_
  refine thenQ_n ?_
  refine aw_seq ?_
  refine aw_region ?_
  refine awl_runp 2 [0, 1, 2, 8, 14] [] (ob := (True ∧ True ∧ True)) (st' := (⟨30, [(0, [], .v (.c (.p (.int .i64) k))), (1, [], .v (.c (.p (.sl (.pr (.int .i64) (.pr (.int .i64) (.int .i64)))) l))), (2, [], .v (.c (.p (.sl (.int .i64)) w))), (8, [], .v (.c (.p (.int .i64) ret12v))), (14, [], .v (.c (.p .bool (!decide (ret12v = (0 : Int))))))], []⟩ : St)) (by kernel_rfl) ⟨trivial, trivial, trivial⟩ ?_
  refine awl_nil ?_
  refine thenQ_n ?_
  refine aw_cond (b := (!decide (ret12v = (0 : Int)))) (by kernel_rfl) (fun hb => ?_) (fun hb => ?_)
  · have h := h.1 hb
    refine aw_seq ?_
    refine aw_region ?_
    refine awl_runp 3 [6, 7] [] (ob := (True ∧ True ∧ True ∧ True)) (st' := (⟨30, [(6, [], .v (.c (.p .bool false))), (7, [], .v (.c (.p (.int .i64) ret12v)))], []⟩ : St)) (by kernel_rfl) ⟨trivial, trivial, trivial, trivial⟩ ?_
    refine awl_nil ?_
    refine thenQ_n ?_
    refine aw_ret ?_
    refine thenQ_r ?_
    exact retQ_r (σ := Bool × Int) (R := (fun y => [toV1 .bool y.1, toV1 (.int .i64) y.2])) (ob := (True ∧ True ∧ True)) (false, ret12v) (by kernel_rfl) ⟨trivial, trivial, trivial⟩ h
  · have h := h.2 hb
    refine aw_skip ?_
    refine thenQ_n ?_
    refine aw_seq ?_
    refine aw_seq ?_
    refine aw_region ?_
    refine awl_runp 2 [1, 2, 16, 17] [] (ob := (True ∧ True ∧ True)) (st' := (⟨30, [(1, [], .v (.c (.p (.sl (.pr (.int .i64) (.pr (.int .i64) (.int .i64)))) l))), (2, [], .v (.c (.p (.sl (.int .i64)) w))), (16, [], .v (.c (.p (.int .i64) k))), (17, [], .v (.c (.p (.sl (.int .i64)) w)))], []⟩ : St)) (by kernel_rfl) ⟨trivial, trivial, trivial⟩ ?_
    refine awl_callk (p := []) (l := [toV1 (.int .i64) k, toV1 (.sl (.int .i64)) w]) (cl := []) false [.d (.int .i64), .d (.sl (.int .i64))] [1, 2, 18] [] (fun (ret18v : Int) => (((!decide (ret18v = (0 : Int))) = true → K (false, ret18v)) ∧ ((!decide (ret18v = (0 : Int))) = false → VC46 l w (fun (ret24v : (List Int)) => (inIdx (0 : Int) ret24v.length ∧ VC44 (ret24v.getD ((0 : Int)).toNat (0 : Int)) (w.length : Int) (fun (ret29v : Bool) => K (ret29v, (0 : Int)))))))) (fun ret18v => [toV1 (.int .i64) ret18v]) (fun ret18v => (⟨30, [(1, [], .v (.c (.p (.sl (.pr (.int .i64) (.pr (.int .i64) (.int .i64)))) l))), (2, [], .v (.c (.p (.sl (.int .i64)) w))), (18, [], .v (.c (.p (.int .i64) ret18v)))], []⟩ : St)) (by kernel_rfl) rfl (by kernel_rfl) rfl (by kernel_rfl) Try.call40 (by kernel_rfl) (fun ret18v => by kernel_rfl) (fun e => by cases e) (fun hg => link40 k w _ h) (fun hg => noF hg) (fun ret18v h => ?_)
    have h : (((!decide (ret18v = (0 : Int))) = true → K (false, ret18v)) ∧ ((!decide (ret18v = (0 : Int))) = false → VC46 l w (fun (ret24v : (List Int)) => (inIdx (0 : Int) ret24v.length ∧ VC44 (ret24v.getD ((0 : Int)).toNat (0 : Int)) (w.length : Int) (fun (ret29v : Bool) => K (ret29v, (0 : Int))))))) := h
    refine awl_runp 1 [1, 2, 9] [] (ob := (True ∧ True)) (st' := (⟨30, [(1, [], .v (.c (.p (.sl (.pr (.int .i64) (.pr (.int .i64) (.int .i64)))) l))), (2, [], .v (.c (.p (.sl (.int .i64)) w))), (9, [], .v (.c (.p (.int .i64) ret18v)))], []⟩ : St)) (by kernel_rfl) ⟨trivial, trivial⟩ ?_
    refine awl_nil ?_
    refine thenQ_n ?_
    refine aw_seq ?_
    refine aw_region ?_
    refine awl_runp 2 [1, 2, 9, 20] [] (ob := (True ∧ True ∧ True)) (st' := (⟨30, [(1, [], .v (.c (.p (.sl (.pr (.int .i64) (.pr (.int .i64) (.int .i64)))) l))), (2, [], .v (.c (.p (.sl (.int .i64)) w))), (9, [], .v (.c (.p (.int .i64) ret18v))), (20, [], .v (.c (.p .bool (!decide (ret18v = (0 : Int))))))], []⟩ : St)) (by kernel_rfl) ⟨trivial, trivial, trivial⟩ ?_
    refine awl_nil ?_
    refine thenQ_n ?_
    refine aw_cond (b := (!decide (ret18v = (0 : Int)))) (by kernel_rfl) (fun hb => ?_) (fun hb => ?_)
    · have h := h.1 hb
      refine aw_seq ?_
      refine aw_region ?_
      refine awl_runp 3 [6, 7] [] (ob := (True ∧ True ∧ True ∧ True)) (st' := (⟨30, [(6, [], .v (.c (.p .bool false))), (7, [], .v (.c (.p (.int .i64) ret18v)))], []⟩ : St)) (by kernel_rfl) ⟨trivial, trivial, trivial, trivial⟩ ?_
      refine awl_nil ?_
      refine thenQ_n ?_
      refine aw_ret ?_
      refine thenQ_r ?_
      exact retQ_r (σ := Bool × Int) (R := (fun y => [toV1 .bool y.1, toV1 (.int .i64) y.2])) (ob := (True ∧ True ∧ True)) (false, ret18v) (by kernel_rfl) ⟨trivial, trivial, trivial⟩ h
    · have h := h.2 hb
      refine aw_skip ?_
      refine thenQ_n ?_
      refine aw_seq ?_
      refine aw_region ?_
      refine awl_runp 2 [2, 22, 23] [] (ob := (True ∧ True ∧ True)) (st' := (⟨30, [(2, [], .v (.c (.p (.sl (.int .i64)) w))), (22, [], .v (.c (.p (.sl (.pr (.int .i64) (.pr (.int .i64) (.int .i64)))) l))), (23, [], .v (.c (.p (.sl (.int .i64)) w)))], []⟩ : St)) (by kernel_rfl) ⟨trivial, trivial, trivial⟩ ?_
      refine awl_callk (p := []) (l := [toV1 (.sl (.pr (.int .i64) (.pr (.int .i64) (.int .i64)))) l, toV1 (.sl (.int .i64)) w]) (cl := []) false [.d (.sl (.pr (.int .i64) (.pr (.int .i64) (.int .i64)))), .d (.sl (.int .i64))] [2, 24] [] (fun (ret24v : (List Int)) => (inIdx (0 : Int) ret24v.length ∧ VC44 (ret24v.getD ((0 : Int)).toNat (0 : Int)) (w.length : Int) (fun (ret29v : Bool) => K (ret29v, (0 : Int))))) (fun ret24v => [toV1 (.sl (.int .u32)) ret24v]) (fun ret24v => (⟨30, [(2, [], .v (.c (.p (.sl (.int .i64)) w))), (24, [], .v (.c (.p (.sl (.int .u32)) ret24v)))], []⟩ : St)) (by kernel_rfl) rfl (by kernel_rfl) rfl (by kernel_rfl) Try.call46 (by kernel_rfl) (fun ret24v => by kernel_rfl) (fun e => by cases e) (fun hg => link46 l w _ h) (fun hg => noF hg) (fun ret24v h => ?_)
      have h : (inIdx (0 : Int) ret24v.length ∧ VC44 (ret24v.getD ((0 : Int)).toNat (0 : Int)) (w.length : Int) (fun (ret29v : Bool) => K (ret29v, (0 : Int)))) := h
      obtain ⟨o1, h⟩ := h
      refine awl_runp 4 [26, 28] [] (ob := (inIdx (0 : Int) ret24v.length ∧ True ∧ True ∧ True ∧ True)) (st' := (⟨30, [(26, [], .v (.c (.p (.int .u32) (ret24v.getD ((0 : Int)).toNat (0 : Int))))), (28, [], .v (.c (.p (.int .i64) (w.length : Int))))], []⟩ : St)) (by kernel_rfl) ⟨o1, trivial, trivial, trivial, trivial⟩ ?_
      refine awl_callk (p := []) (l := [toV1 (.int .u32) (ret24v.getD ((0 : Int)).toNat (0 : Int)), toV1 (.int .i64) (w.length : Int)]) (cl := []) false [.d (.int .u32), .d (.int .i64)] [29] [] (fun (ret29v : Bool) => K (ret29v, (0 : Int))) (fun ret29v => [toV1 .bool ret29v]) (fun ret29v => (⟨30, [(29, [], .v (.c (.p .bool ret29v)))], []⟩ : St)) (by kernel_rfl) rfl (by kernel_rfl) rfl (by kernel_rfl) Try.call44 (by kernel_rfl) (fun ret29v => by kernel_rfl) (fun e => by cases e) (fun hg => link44 (ret24v.getD ((0 : Int)).toNat (0 : Int)) (w.length : Int) _ h) (fun hg => noF hg) (fun ret29v h => ?_)
      have h : K (ret29v, (0 : Int)) := h
      refine awl_runp 2 [6, 7] [] (ob := (True ∧ True ∧ True)) (st' := (⟨30, [(6, [], .v (.c (.p .bool ret29v))), (7, [], .v (.c (.p (.int .i64) (0 : Int))))], []⟩ : St)) (by kernel_rfl) ⟨trivial, trivial, trivial⟩ ?_
      refine awl_nil ?_
      refine thenQ_n ?_
      refine aw_ret ?_
      exact retQ_r (σ := Bool × Int) (R := (fun y => [toV1 .bool y.1, toV1 (.int .i64) y.2])) (ob := (True ∧ True ∧ True)) (ret29v, (0 : Int)) (by kernel_rfl) ⟨trivial, trivial, trivial⟩ h

end Dec
