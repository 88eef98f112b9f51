/-
  Printed by dec2.py: of each function its plain demand, and that the demand gives the contract.
-/
import Derived.Test.YtfigkkmiallghaaGenMb
set_option linter.unusedVariables false
set_option linter.unusedSimpArgs false
set_option maxRecDepth 100000
namespace Dec
open Go Go.RowKit Go.Proofs

-- coppicer/tally.checkWord
def VC55 (m : (Int × (Int × ((List (List Int)) × (Int × Int))))) (w : (List Int)) (K : Int → Prop) : Prop :=
  VC40 m (fun (ret7v : Int) => (((!decide (ret7v = (0 : Int))) = true → K ret7v) ∧ ((!decide (ret7v = (0 : Int))) = false → VC41 m.2.1 w (fun (ret14v : Int) => K ret14v))))

set_option maxHeartbeats 4000000 in
theorem link55 (m : (Int × (Int × ((List (List Int)) × (Int × Int))))) (w : (List Int)) (K : Int → Prop) (h : VC55 m w K) : ACalls Try.prog 55 [toV1 (.pr (.int .i64) (.pr (.int .i64) (.pr (.sl (.sl (.int .i64))) (.pr (.int .i64) (.int .u32))))) m, toV1 (.sl (.int .i64)) w] (fun res => ∃ y, res = (fun y => [toV1 (.int .i64) y]) y ∧ K y) := by
  refine acalls_of_aw [(.int .i64)] [.t 4] Try.func55 rfl rfl rfl ?_
  unfold VC55 at h
  refine aw_seq ?_
  refine aw_region ?_
  refine awl_runp 2 [1, 2] [2] (ob := (True ∧ True ∧ True)) (st' := (⟨15, [(1, [], .v (.c (.p (.sl (.int .i64)) w))), (2, [], .v (.c (.ptr 2 0)))], [(2, [], .box [.p (.int .i64) m.1, .p (.int .i64) m.2.1, .p (.sl (.sl (.int .i64))) m.2.2.1, .p (.int .i64) m.2.2.2.1, .p (.int .u32) m.2.2.2.2])]⟩ : St)) (by kernel_rfl) ⟨trivial, trivial, trivial⟩ ?_
  refine awl_nil ?_
  refine thenQ_n ?_
  refine aw_seq ?_
  refine aw_seq ?_
  refine aw_region ?_
  refine awl_runp 1 [1, 2, 6] [2] (ob := (True ∧ True)) (st' := (⟨15, [(1, [], .v (.c (.p (.sl (.int .i64)) w))), (2, [], .v (.c (.ptr 2 0))), (6, [], .v (.agg [.p (.int .i64) m.1, .p (.int .i64) m.2.1, .p (.sl (.sl (.int .i64))) m.2.2.1, .p (.int .i64) m.2.2.2.1, .p (.int .u32) m.2.2.2.2]))], [(2, [], .box [.p (.int .i64) m.1, .p (.int .i64) m.2.1, .p (.sl (.sl (.int .i64))) m.2.2.1, .p (.int .i64) m.2.2.2.1, .p (.int .u32) m.2.2.2.2])]⟩ : St)) (by kernel_rfl) ⟨trivial, trivial⟩ ?_
  refine awl_callk (p := []) (l := [toV1 (.pr (.int .i64) (.pr (.int .i64) (.pr (.sl (.sl (.int .i64))) (.pr (.int .i64) (.int .u32))))) m]) (cl := []) false [.d (.pr (.int .i64) (.pr (.int .i64) (.pr (.sl (.sl (.int .i64))) (.pr (.int .i64) (.int .u32)))))] [1, 2, 7] [2] (fun (ret7v : Int) => (((!decide (ret7v = (0 : Int))) = true → K ret7v) ∧ ((!decide (ret7v = (0 : Int))) = false → VC41 m.2.1 w (fun (ret14v : Int) => K ret14v)))) (fun ret7v => [toV1 (.int .i64) ret7v]) (fun ret7v => (⟨15, [(1, [], .v (.c (.p (.sl (.int .i64)) w))), (2, [], .v (.c (.ptr 2 0))), (7, [], .v (.c (.p (.int .i64) ret7v)))], [(2, [], .box [.p (.int .i64) m.1, .p (.int .i64) m.2.1, .p (.sl (.sl (.int .i64))) m.2.2.1, .p (.int .i64) m.2.2.2.1, .p (.int .u32) m.2.2.2.2])]⟩ : St)) (by kernel_rfl) rfl (by kernel_rfl) rfl (by kernel_rfl) Try.call40 (by kernel_rfl) (fun ret7v => by kernel_rfl) (fun e => by cases e) (fun hg => link40 m _ h) (fun hg => noF hg) (fun ret7v h => ?_)
  have h : (((!decide (ret7v = (0 : Int))) = true → K ret7v) ∧ ((!decide (ret7v = (0 : Int))) = false → VC41 m.2.1 w (fun (ret14v : Int) => K ret14v))) := h
  refine awl_runp 1 [1, 2, 5] [2] (ob := (True ∧ True)) (st' := (⟨15, [(1, [], .v (.c (.p (.sl (.int .i64)) w))), (2, [], .v (.c (.ptr 2 0))), (5, [], .v (.c (.p (.int .i64) ret7v)))], [(2, [], .box [.p (.int .i64) m.1, .p (.int .i64) m.2.1, .p (.sl (.sl (.int .i64))) m.2.2.1, .p (.int .i64) m.2.2.2.1, .p (.int .u32) m.2.2.2.2])]⟩ : St)) (by kernel_rfl) ⟨trivial, trivial⟩ ?_
  refine awl_nil ?_
  refine thenQ_n ?_
  refine aw_seq ?_
  refine aw_region ?_
  refine awl_runp 2 [1, 2, 5, 9] [2] (ob := (True ∧ True ∧ True)) (st' := (⟨15, [(1, [], .v (.c (.p (.sl (.int .i64)) w))), (2, [], .v (.c (.ptr 2 0))), (5, [], .v (.c (.p (.int .i64) ret7v))), (9, [], .v (.c (.p .bool (!decide (ret7v = (0 : Int))))))], [(2, [], .box [.p (.int .i64) m.1, .p (.int .i64) m.2.1, .p (.sl (.sl (.int .i64))) m.2.2.1, .p (.int .i64) m.2.2.2.1, .p (.int .u32) m.2.2.2.2])]⟩ : St)) (by kernel_rfl) ⟨trivial, trivial, trivial⟩ ?_
  refine awl_nil ?_
  refine thenQ_n ?_
  refine aw_cond (b := (!decide (ret7v = (0 : Int)))) (by kernel_rfl) (fun hb => ?_) (fun hb => ?_)
  · have h := h.1 hb
    refine aw_seq ?_
    refine aw_region ?_
    refine awl_runp 2 [4] [] (ob := (True ∧ True ∧ True)) (st' := (⟨15, [(4, [], .v (.c (.p (.int .i64) ret7v)))], []⟩ : St)) (by kernel_rfl) ⟨trivial, trivial, trivial⟩ ?_
    refine awl_nil ?_
    refine thenQ_n ?_
    refine aw_ret ?_
    refine thenQ_r ?_
    exact retQ_r (σ := Int) (R := (fun y => [toV1 (.int .i64) y])) (ob := (True ∧ True)) ret7v (by kernel_rfl) ⟨trivial, trivial⟩ h
  · have h := h.2 hb
    refine aw_skip ?_
    refine thenQ_n ?_
    refine aw_seq ?_
    refine aw_region ?_
    refine awl_runp 3 [12, 13] [] (ob := (True ∧ True ∧ True ∧ True)) (st' := (⟨15, [(12, [], .v (.c (.p (.int .i64) m.2.1))), (13, [], .v (.c (.p (.sl (.int .i64)) w)))], []⟩ : St)) (by kernel_rfl) ⟨trivial, trivial, trivial, trivial⟩ ?_
    refine awl_callk (p := []) (l := [toV1 (.int .i64) m.2.1, toV1 (.sl (.int .i64)) w]) (cl := []) false [.d (.int .i64), .d (.sl (.int .i64))] [14] [] (fun (ret14v : Int) => K ret14v) (fun ret14v => [toV1 (.int .i64) ret14v]) (fun ret14v => (⟨15, [(14, [], .v (.c (.p (.int .i64) ret14v)))], []⟩ : St)) (by kernel_rfl) rfl (by kernel_rfl) rfl (by kernel_rfl) Try.call41 (by kernel_rfl) (fun ret14v => by kernel_rfl) (fun e => by cases e) (fun hg => link41 m.2.1 w _ h) (fun hg => noF hg) (fun ret14v h => ?_)
    have h : K ret14v := h
    refine awl_runp 1 [4] [] (ob := (True ∧ True)) (st' := (⟨15, [(4, [], .v (.c (.p (.int .i64) ret14v)))], []⟩ : St)) (by kernel_rfl) ⟨trivial, trivial⟩ ?_
    refine awl_nil ?_
    refine thenQ_n ?_
    refine aw_ret ?_
    exact retQ_r (σ := Int) (R := (fun y => [toV1 (.int .i64) y])) (ob := (True ∧ True)) ret14v (by kernel_rfl) ⟨trivial, trivial⟩ h

-- coppicer/tally.Pump
def VC32_k1 (K : Int × Int × Int → Prop) : Prop :=
  K ((0 : Int), (0 : Int), (5 : Int))

def VC32_l1 (m : (Int × (Int × ((List (List Int)) × (Int × Int))))) (w : (List Int)) (K : Int × Int × Int → Prop) (atv : Int) (v27 : Int) (visited : (List (Int × Int))) (X1 : Int × Int × (List (Int × Int)) → Prop) : Prop :=
  (((decide (v27 < (w.length : Int))) = true → (inIdx v27 w.length ∧ (inIdx atv m.2.2.1.length ∧ inIdx (w.getD (v27).toNat (0 : Int)) (m.2.2.1.getD (atv).toNat ([] : (List Int))).length ∧ (((mget visited ((m.2.2.1.getD (atv).toNat ([] : (List Int))).getD ((w.getD (v27).toNat (0 : Int))).toNat (0 : Int))).isSome = true → (InR (v27 + (1 : Int)) ∧ K (((mget visited ((m.2.2.1.getD (atv).toNat ([] : (List Int))).getD ((w.getD (v27).toNat (0 : Int))).toNat (0 : Int))).getD (0 : Int)), (v27 + (1 : Int)), (0 : Int)))) ∧ ((mget visited ((m.2.2.1.getD (atv).toNat ([] : (List Int))).getD ((w.getD (v27).toNat (0 : Int))).toNat (0 : Int))).isSome = false → (InR (v27 + (1 : Int)) ∧ (InR (v27 + (1 : Int)) ∧ X1 (((m.2.2.1.getD (atv).toNat ([] : (List Int))).getD ((w.getD (v27).toNat (0 : Int))).toNat (0 : Int)), (v27 + (1 : Int)), (mset visited ((m.2.2.1.getD (atv).toNat ([] : (List Int))).getD ((w.getD (v27).toNat (0 : Int))).toNat (0 : Int)) (v27 + (1 : Int))))))))))) ∧ ((decide (v27 < (w.length : Int))) = false → VC32_k1 K))

def VC32 (m : (Int × (Int × ((List (List Int)) × (Int × Int))))) (w : (List Int)) (K : Int × Int × Int → Prop) : Prop :=
  VC55 m w (fun (ret16v : Int) => (((!decide (ret16v = (0 : Int))) = true → K ((0 : Int), (0 : Int), ret16v)) ∧ ((!decide (ret16v = (0 : Int))) = false → Loop (σ := Int × Int × (List (Int × Int))) (fun s X => VC32_l1 m w K s.1 s.2.1 s.2.2 X) (m.2.2.2.1, (0 : Int), (mset ([] : List (Int × Int)) m.2.2.2.1 (0 : Int))))))

set_option maxHeartbeats 4000000 in
theorem link32 (m : (Int × (Int × ((List (List Int)) × (Int × Int))))) (w : (List Int)) (K : Int × Int × Int → Prop) (h : VC32 m w K) : ACalls Try.prog 32 [toV1 (.pr (.int .i64) (.pr (.int .i64) (.pr (.sl (.sl (.int .i64))) (.pr (.int .i64) (.int .u32))))) m, toV1 (.sl (.int .i64)) w] (fun res => ∃ y, res = (fun y => [toV1 (.int .i64) y.1, toV1 (.int .i64) y.2.1, toV1 (.int .i64) y.2.2]) y ∧ K y) := by
  refine acalls_of_aw [(.int .i64), (.int .i64), (.int .i64)] [.t 4, .t 5, .t 6] Try.func32 rfl rfl rfl ?_
  unfold VC32 at h
  refine aw_seq ?_
  refine aw_region ?_
  refine awl_runp 4 [1, 2] [2] (ob := (True ∧ True ∧ True ∧ True ∧ True)) (st' := (⟨55, [(1, [], .v (.c (.p (.sl (.int .i64)) w))), (2, [], .v (.c (.ptr 2 0)))], [(2, [], .box [.p (.int .i64) m.1, .p (.int .i64) m.2.1, .p (.sl (.sl (.int .i64))) m.2.2.1, .p (.int .i64) m.2.2.2.1, .p (.int .u32) m.2.2.2.2])]⟩ : St)) (by kernel_rfl) ⟨trivial, trivial, trivial, trivial, trivial⟩ ?_
  refine awl_nil ?_
  refine thenQ_n ?_
  refine aw_seq ?_
  refine aw_seq ?_
  refine aw_region ?_
  refine awl_runp 2 [1, 2, 14, 15] [2] (ob := (True ∧ True ∧ True)) (st' := (⟨55, [(1, [], .v (.c (.p (.sl (.int .i64)) w))), (2, [], .v (.c (.ptr 2 0))), (14, [], .v (.agg [.p (.int .i64) m.1, .p (.int .i64) m.2.1, .p (.sl (.sl (.int .i64))) m.2.2.1, .p (.int .i64) m.2.2.2.1, .p (.int .u32) m.2.2.2.2])), (15, [], .v (.c (.p (.sl (.int .i64)) w)))], [(2, [], .box [.p (.int .i64) m.1, .p (.int .i64) m.2.1, .p (.sl (.sl (.int .i64))) m.2.2.1, .p (.int .i64) m.2.2.2.1, .p (.int .u32) m.2.2.2.2])]⟩ : St)) (by kernel_rfl) ⟨trivial, trivial, trivial⟩ ?_
  refine awl_callk (p := []) (l := [toV1 (.pr (.int .i64) (.pr (.int .i64) (.pr (.sl (.sl (.int .i64))) (.pr (.int .i64) (.int .u32))))) m, toV1 (.sl (.int .i64)) w]) (cl := []) false [.d (.pr (.int .i64) (.pr (.int .i64) (.pr (.sl (.sl (.int .i64))) (.pr (.int .i64) (.int .u32))))), .d (.sl (.int .i64))] [1, 2, 16] [2] (fun (ret16v : Int) => (((!decide (ret16v = (0 : Int))) = true → K ((0 : Int), (0 : Int), ret16v)) ∧ ((!decide (ret16v = (0 : Int))) = false → Loop (σ := Int × Int × (List (Int × Int))) (fun s X => VC32_l1 m w K s.1 s.2.1 s.2.2 X) (m.2.2.2.1, (0 : Int), (mset ([] : List (Int × Int)) m.2.2.2.1 (0 : Int)))))) (fun ret16v => [toV1 (.int .i64) ret16v]) (fun ret16v => (⟨55, [(1, [], .v (.c (.p (.sl (.int .i64)) w))), (2, [], .v (.c (.ptr 2 0))), (16, [], .v (.c (.p (.int .i64) ret16v)))], [(2, [], .box [.p (.int .i64) m.1, .p (.int .i64) m.2.1, .p (.sl (.sl (.int .i64))) m.2.2.1, .p (.int .i64) m.2.2.2.1, .p (.int .u32) m.2.2.2.2])]⟩ : St)) (by kernel_rfl) rfl (by kernel_rfl) rfl (by kernel_rfl) Try.call55 (by kernel_rfl) (fun ret16v => by kernel_rfl) (fun e => by cases e) (fun hg => link55 m w _ h) (fun hg => noF hg) (fun ret16v h => ?_)
  have h : (((!decide (ret16v = (0 : Int))) = true → K ((0 : Int), (0 : Int), ret16v)) ∧ ((!decide (ret16v = (0 : Int))) = false → Loop (σ := Int × Int × (List (Int × Int))) (fun s X => VC32_l1 m w K s.1 s.2.1 s.2.2 X) (m.2.2.2.1, (0 : Int), (mset ([] : List (Int × Int)) m.2.2.2.1 (0 : Int))))) := h
  refine awl_runp 1 [1, 2, 7] [2] (ob := (True ∧ True)) (st' := (⟨55, [(1, [], .v (.c (.p (.sl (.int .i64)) w))), (2, [], .v (.c (.ptr 2 0))), (7, [], .v (.c (.p (.int .i64) ret16v)))], [(2, [], .box [.p (.int .i64) m.1, .p (.int .i64) m.2.1, .p (.sl (.sl (.int .i64))) m.2.2.1, .p (.int .i64) m.2.2.2.1, .p (.int .u32) m.2.2.2.2])]⟩ : St)) (by kernel_rfl) ⟨trivial, trivial⟩ ?_
  refine awl_nil ?_
  refine thenQ_n ?_
  refine aw_seq ?_
  refine aw_region ?_
  refine awl_runp 2 [1, 2, 7, 18] [2] (ob := (True ∧ True ∧ True)) (st' := (⟨55, [(1, [], .v (.c (.p (.sl (.int .i64)) w))), (2, [], .v (.c (.ptr 2 0))), (7, [], .v (.c (.p (.int .i64) ret16v))), (18, [], .v (.c (.p .bool (!decide (ret16v = (0 : Int))))))], [(2, [], .box [.p (.int .i64) m.1, .p (.int .i64) m.2.1, .p (.sl (.sl (.int .i64))) m.2.2.1, .p (.int .i64) m.2.2.2.1, .p (.int .u32) m.2.2.2.2])]⟩ : St)) (by kernel_rfl) ⟨trivial, trivial, trivial⟩ ?_
  refine awl_nil ?_
  refine thenQ_n ?_
  refine aw_cond (b := (!decide (ret16v = (0 : Int)))) (by kernel_rfl) (fun hb => ?_) (fun hb => ?_)
  · have h := h.1 hb
    refine aw_seq ?_
    refine aw_region ?_
    refine awl_runp 4 [4, 5, 6] [] (ob := (True ∧ True ∧ True ∧ True ∧ True)) (st' := (⟨55, [(4, [], .v (.c (.p (.int .i64) (0 : Int)))), (5, [], .v (.c (.p (.int .i64) (0 : Int)))), (6, [], .v (.c (.p (.int .i64) ret16v)))], []⟩ : St)) (by kernel_rfl) ⟨trivial, trivial, trivial, trivial, trivial⟩ ?_
    refine awl_nil ?_
    refine thenQ_n ?_
    refine aw_ret ?_
    refine thenQ_r ?_
    exact retQ_r (σ := Int × Int × Int) (R := (fun y => [toV1 (.int .i64) y.1, toV1 (.int .i64) y.2.1, toV1 (.int .i64) y.2.2])) (ob := (True ∧ True ∧ True ∧ True)) ((0 : Int), (0 : Int), ret16v) (by kernel_rfl) ⟨trivial, trivial, trivial, trivial⟩ h
  · have h := h.2 hb
    refine aw_skip ?_
    refine thenQ_n ?_
    refine aw_seq ?_
    refine aw_region ?_
    refine awl_runp 3 [1, 2, 8] [2] (ob := (True ∧ True ∧ True ∧ True)) (st' := (⟨55, [(1, [], .v (.c (.p (.sl (.int .i64)) w))), (2, [], .v (.c (.ptr 2 0))), (8, [], .v (.c (.p (.int .i64) m.2.2.2.1)))], [(2, [], .box [.p (.int .i64) m.1, .p (.int .i64) m.2.1, .p (.sl (.sl (.int .i64))) m.2.2.1, .p (.int .i64) m.2.2.2.1, .p (.int .u32) m.2.2.2.2])]⟩ : St)) (by kernel_rfl) ⟨trivial, trivial, trivial, trivial⟩ ?_
    refine awl_nil ?_
    refine thenQ_n ?_
    refine aw_seq ?_
    refine aw_region ?_
    refine awl_runp 5 [1, 2, 8, 9] [2, 22] (ob := (True ∧ True ∧ True ∧ True ∧ True ∧ True)) (st' := (⟨55, [(1, [], .v (.c (.p (.sl (.int .i64)) w))), (2, [], .v (.c (.ptr 2 0))), (8, [], .v (.c (.p (.int .i64) m.2.2.2.1))), (9, [], .v (.c (.own 22)))], [(2, [], .box [.p (.int .i64) m.1, .p (.int .i64) m.2.1, .p (.sl (.sl (.int .i64))) m.2.2.1, .p (.int .i64) m.2.2.2.1, .p (.int .u32) m.2.2.2.2]), (22, [], .dict (.int .i64) (.int .i64) (mset ([] : List (Int × Int)) m.2.2.2.1 (0 : Int)))]⟩ : St)) (by kernel_rfl) ⟨trivial, trivial, trivial, trivial, trivial, trivial⟩ ?_
    refine awl_nil ?_
    refine thenQ_n ?_
    refine aw_seq ?_
    refine aw_seq ?_
    refine aw_region ?_
    refine awl_runp 3 [2, 8, 9, 25, 26, 27] [2, 22] (ob := (True ∧ True ∧ True ∧ True)) (st' := (⟨55, [(2, [], .v (.c (.ptr 2 0))), (8, [], .v (.c (.p (.int .i64) m.2.2.2.1))), (9, [], .v (.c (.own 22))), (25, [], .v (.c (.p (.sl (.int .i64)) w))), (26, [], .v (.c (.p (.int .i64) (w.length : Int)))), (27, [], .v (.c (.p (.int .i64) (0 : Int))))], [(2, [], .box [.p (.int .i64) m.1, .p (.int .i64) m.2.1, .p (.sl (.sl (.int .i64))) m.2.2.1, .p (.int .i64) m.2.2.2.1, .p (.int .u32) m.2.2.2.2]), (22, [], .dict (.int .i64) (.int .i64) (mset ([] : List (Int × Int)) m.2.2.2.1 (0 : Int)))]⟩ : St)) (by kernel_rfl) ⟨trivial, trivial, trivial, trivial⟩ ?_
    refine awl_nil ?_
    refine thenQ_n ?_
    refine withJoin (σ := Unit) (fun s => (⟨55, [], []⟩ : St)) (fun s => VC32_k1 K) (fun s h => ?_) (fun rest1 => ?_)
    · have h : VC32_k1 K := h
      unfold VC32_k1 at h
      refine thenQ_n ?_
      refine aw_seq ?_
      refine aw_region ?_
      refine awl_runp 3 [4, 5, 6] [] (ob := (True ∧ True ∧ True ∧ True)) (st' := (⟨55, [(4, [], .v (.c (.p (.int .i64) (0 : Int)))), (5, [], .v (.c (.p (.int .i64) (0 : Int)))), (6, [], .v (.c (.p (.int .i64) (5 : Int))))], []⟩ : St)) (by kernel_rfl) ⟨trivial, trivial, trivial, trivial⟩ ?_
      refine awl_nil ?_
      refine thenQ_n ?_
      refine aw_ret ?_
      exact retQ_r (σ := Int × Int × Int) (R := (fun y => [toV1 (.int .i64) y.1, toV1 (.int .i64) y.2.1, toV1 (.int .i64) y.2.2])) (ob := (True ∧ True ∧ True ∧ True)) ((0 : Int), (0 : Int), (5 : Int)) (by kernel_rfl) ⟨trivial, trivial, trivial, trivial⟩ h
    · refine aw_block ?_
      refine aw_loop (σ := Int × Int × (List (Int × Int))) (fun s => (⟨55, [(2, [], .v (.c (.ptr 2 0))), (8, [], .v (.c (.p (.int .i64) s.1))), (9, [], .v (.c (.own 22))), (25, [], .v (.c (.p (.sl (.int .i64)) w))), (26, [], .v (.c (.p (.int .i64) (w.length : Int)))), (27, [], .v (.c (.p (.int .i64) s.2.1)))], [(2, [], .box [.p (.int .i64) m.1, .p (.int .i64) m.2.1, .p (.sl (.sl (.int .i64))) m.2.2.1, .p (.int .i64) m.2.2.2.1, .p (.int .u32) m.2.2.2.2]), (22, [], .dict (.int .i64) (.int .i64) s.2.2)]⟩ : St)) (fun s X => VC32_l1 m w K s.1 s.2.1 s.2.2 X) (s0 := (m.2.2.2.1, (0 : Int), (mset ([] : List (Int × Int)) m.2.2.2.1 (0 : Int)))) (fun s X1 h => ?_) h
      obtain ⟨atv, v27, visited⟩ := s
      have h : VC32_l1 m w K atv v27 visited X1 := h
      unfold VC32_l1 at h
      refine aw_seq ?_
      refine aw_region ?_
      refine awl_runp 1 [2, 8, 9, 25, 26, 27, 28] [2, 22] (ob := (True ∧ True)) (st' := (⟨55, [(2, [], .v (.c (.ptr 2 0))), (8, [], .v (.c (.p (.int .i64) atv))), (9, [], .v (.c (.own 22))), (25, [], .v (.c (.p (.sl (.int .i64)) w))), (26, [], .v (.c (.p (.int .i64) (w.length : Int)))), (27, [], .v (.c (.p (.int .i64) v27))), (28, [], .v (.c (.p .bool (decide (v27 < (w.length : Int))))))], [(2, [], .box [.p (.int .i64) m.1, .p (.int .i64) m.2.1, .p (.sl (.sl (.int .i64))) m.2.2.1, .p (.int .i64) m.2.2.2.1, .p (.int .u32) m.2.2.2.2]), (22, [], .dict (.int .i64) (.int .i64) visited)]⟩ : St)) (by kernel_rfl) ⟨trivial, trivial⟩ ?_
      refine awl_nil ?_
      refine thenQ_n ?_
      refine aw_seq ?_
      refine aw_cond (b := (decide (v27 < (w.length : Int)))) (by kernel_rfl) (fun hb => ?_) (fun hb => ?_)
      · have h := h.1 hb
        refine aw_skip ?_
        refine thenQ_n ?_
        refine aw_seq ?_
        refine aw_block ?_
        refine aw_seq ?_
        refine aw_region ?_
        obtain ⟨o1, h⟩ := h
        refine awl_runp 5 [2, 8, 9, 10, 11, 25, 26, 27] [2, 22] (ob := (True ∧ inIdx v27 w.length ∧ True ∧ True ∧ True ∧ True)) (st' := (⟨55, [(2, [], .v (.c (.ptr 2 0))), (8, [], .v (.c (.p (.int .i64) atv))), (9, [], .v (.c (.own 22))), (10, [], .v (.c (.p (.int .i64) v27))), (11, [], .v (.c (.p (.int .i64) (w.getD (v27).toNat (0 : Int))))), (25, [], .v (.c (.p (.sl (.int .i64)) w))), (26, [], .v (.c (.p (.int .i64) (w.length : Int)))), (27, [], .v (.c (.p (.int .i64) v27)))], [(2, [], .box [.p (.int .i64) m.1, .p (.int .i64) m.2.1, .p (.sl (.sl (.int .i64))) m.2.2.1, .p (.int .i64) m.2.2.2.1, .p (.int .u32) m.2.2.2.2]), (22, [], .dict (.int .i64) (.int .i64) visited)]⟩ : St)) (by kernel_rfl) ⟨trivial, o1, trivial, trivial, trivial, trivial⟩ ?_
        refine awl_nil ?_
        refine thenQ_n ?_
        refine aw_seq ?_
        refine aw_region ?_
        obtain ⟨o1, o2, h⟩ := h
        refine awl_runp 9 [2, 8, 9, 10, 25, 26, 27] [2, 22] (ob := (True ∧ True ∧ True ∧ inIdx atv m.2.2.1.length ∧ True ∧ True ∧ inIdx (w.getD (v27).toNat (0 : Int)) (m.2.2.1.getD (atv).toNat ([] : (List Int))).length ∧ True ∧ True ∧ True)) (st' := (⟨55, [(2, [], .v (.c (.ptr 2 0))), (8, [], .v (.c (.p (.int .i64) ((m.2.2.1.getD (atv).toNat ([] : (List Int))).getD ((w.getD (v27).toNat (0 : Int))).toNat (0 : Int))))), (9, [], .v (.c (.own 22))), (10, [], .v (.c (.p (.int .i64) v27))), (25, [], .v (.c (.p (.sl (.int .i64)) w))), (26, [], .v (.c (.p (.int .i64) (w.length : Int)))), (27, [], .v (.c (.p (.int .i64) v27)))], [(2, [], .box [.p (.int .i64) m.1, .p (.int .i64) m.2.1, .p (.sl (.sl (.int .i64))) m.2.2.1, .p (.int .i64) m.2.2.2.1, .p (.int .u32) m.2.2.2.2]), (22, [], .dict (.int .i64) (.int .i64) visited)]⟩ : St)) (by kernel_rfl) ⟨trivial, trivial, trivial, o1, trivial, trivial, o2, trivial, trivial, trivial⟩ ?_
        refine awl_nil ?_
        refine thenQ_n ?_
        refine aw_seq ?_
        refine aw_seq ?_
        refine aw_region ?_
        refine awl_runp 8 [2, 8, 9, 10, 12, 13, 25, 26, 27] [2, 22] (ob := (True ∧ True ∧ True ∧ True ∧ True ∧ True ∧ True ∧ True ∧ True)) (st' := (⟨55, [(2, [], .v (.c (.ptr 2 0))), (8, [], .v (.c (.p (.int .i64) ((m.2.2.1.getD (atv).toNat ([] : (List Int))).getD ((w.getD (v27).toNat (0 : Int))).toNat (0 : Int))))), (9, [], .v (.c (.own 22))), (10, [], .v (.c (.p (.int .i64) v27))), (12, [], .v (.c (.p (.int .i64) ((mget visited ((m.2.2.1.getD (atv).toNat ([] : (List Int))).getD ((w.getD (v27).toNat (0 : Int))).toNat (0 : Int))).getD (0 : Int))))), (13, [], .v (.c (.p .bool ((mget visited ((m.2.2.1.getD (atv).toNat ([] : (List Int))).getD ((w.getD (v27).toNat (0 : Int))).toNat (0 : Int))).isSome)))), (25, [], .v (.c (.p (.sl (.int .i64)) w))), (26, [], .v (.c (.p (.int .i64) (w.length : Int)))), (27, [], .v (.c (.p (.int .i64) v27)))], [(2, [], .box [.p (.int .i64) m.1, .p (.int .i64) m.2.1, .p (.sl (.sl (.int .i64))) m.2.2.1, .p (.int .i64) m.2.2.2.1, .p (.int .u32) m.2.2.2.2]), (22, [], .dict (.int .i64) (.int .i64) visited)]⟩ : St)) (by kernel_rfl) ⟨trivial, trivial, trivial, trivial, trivial, trivial, trivial, trivial, trivial⟩ ?_
        refine awl_nil ?_
        refine thenQ_n ?_
        refine aw_seq ?_
        refine aw_region ?_
        refine awl_runp 1 [2, 8, 9, 10, 12, 25, 26, 27, 46] [2, 22] (ob := (True ∧ True)) (st' := (⟨55, [(2, [], .v (.c (.ptr 2 0))), (8, [], .v (.c (.p (.int .i64) ((m.2.2.1.getD (atv).toNat ([] : (List Int))).getD ((w.getD (v27).toNat (0 : Int))).toNat (0 : Int))))), (9, [], .v (.c (.own 22))), (10, [], .v (.c (.p (.int .i64) v27))), (12, [], .v (.c (.p (.int .i64) ((mget visited ((m.2.2.1.getD (atv).toNat ([] : (List Int))).getD ((w.getD (v27).toNat (0 : Int))).toNat (0 : Int))).getD (0 : Int))))), (25, [], .v (.c (.p (.sl (.int .i64)) w))), (26, [], .v (.c (.p (.int .i64) (w.length : Int)))), (27, [], .v (.c (.p (.int .i64) v27))), (46, [], .v (.c (.p .bool ((mget visited ((m.2.2.1.getD (atv).toNat ([] : (List Int))).getD ((w.getD (v27).toNat (0 : Int))).toNat (0 : Int))).isSome))))], [(2, [], .box [.p (.int .i64) m.1, .p (.int .i64) m.2.1, .p (.sl (.sl (.int .i64))) m.2.2.1, .p (.int .i64) m.2.2.2.1, .p (.int .u32) m.2.2.2.2]), (22, [], .dict (.int .i64) (.int .i64) visited)]⟩ : St)) (by kernel_rfl) ⟨trivial, trivial⟩ ?_
        refine awl_nil ?_
        refine thenQ_n ?_
        refine aw_cond (b := (mget visited ((m.2.2.1.getD (atv).toNat ([] : (List Int))).getD ((w.getD (v27).toNat (0 : Int))).toNat (0 : Int))).isSome) (by kernel_rfl) (fun hb => ?_) (fun hb => ?_)
        · have h := h.1 hb
          refine aw_seq ?_
          refine aw_region ?_
          obtain ⟨o1, h⟩ := h
          refine awl_runp 6 [4, 5, 6] [] (ob := (True ∧ True ∧ InR (v27 + (1 : Int)) ∧ True ∧ True ∧ True ∧ True)) (st' := (⟨55, [(4, [], .v (.c (.p (.int .i64) ((mget visited ((m.2.2.1.getD (atv).toNat ([] : (List Int))).getD ((w.getD (v27).toNat (0 : Int))).toNat (0 : Int))).getD (0 : Int))))), (5, [], .v (.c (.p (.int .i64) (v27 + (1 : Int))))), (6, [], .v (.c (.p (.int .i64) (0 : Int))))], []⟩ : St)) (by kernel_rfl) ⟨trivial, trivial, o1, trivial, trivial, trivial, trivial⟩ ?_
          refine awl_nil ?_
          refine thenQ_n ?_
          refine aw_ret ?_
          refine thenQ_r ?_
          refine blockQ_r ?_
          refine thenQ_r ?_
          refine thenQ_r ?_
          refine blockQ_r ?_
          refine thenQ_r ?_
          exact retQ_r (σ := Int × Int × Int) (R := (fun y => [toV1 (.int .i64) y.1, toV1 (.int .i64) y.2.1, toV1 (.int .i64) y.2.2])) (ob := (True ∧ True ∧ True ∧ True)) (((mget visited ((m.2.2.1.getD (atv).toNat ([] : (List Int))).getD ((w.getD (v27).toNat (0 : Int))).toNat (0 : Int))).getD (0 : Int)), (v27 + (1 : Int)), (0 : Int)) (by kernel_rfl) ⟨trivial, trivial, trivial, trivial⟩ h
        · have h := h.2 hb
          refine aw_skip ?_
          refine thenQ_n ?_
          refine aw_region ?_
          obtain ⟨o1, h⟩ := h
          refine awl_runp 5 [2, 8, 9, 25, 26, 27] [2, 22] (ob := (True ∧ True ∧ True ∧ InR (v27 + (1 : Int)) ∧ True ∧ True)) (st' := (⟨55, [(2, [], .v (.c (.ptr 2 0))), (8, [], .v (.c (.p (.int .i64) ((m.2.2.1.getD (atv).toNat ([] : (List Int))).getD ((w.getD (v27).toNat (0 : Int))).toNat (0 : Int))))), (9, [], .v (.c (.own 22))), (25, [], .v (.c (.p (.sl (.int .i64)) w))), (26, [], .v (.c (.p (.int .i64) (w.length : Int)))), (27, [], .v (.c (.p (.int .i64) v27)))], [(2, [], .box [.p (.int .i64) m.1, .p (.int .i64) m.2.1, .p (.sl (.sl (.int .i64))) m.2.2.1, .p (.int .i64) m.2.2.2.1, .p (.int .u32) m.2.2.2.2]), (22, [], .dict (.int .i64) (.int .i64) (mset visited ((m.2.2.1.getD (atv).toNat ([] : (List Int))).getD ((w.getD (v27).toNat (0 : Int))).toNat (0 : Int)) (v27 + (1 : Int))))]⟩ : St)) (by kernel_rfl) ⟨trivial, trivial, trivial, o1, trivial, trivial⟩ ?_
          refine awl_nil ?_
          refine blockQ_n ?_
          refine thenQ_n ?_
          refine aw_region ?_
          obtain ⟨o1, h⟩ := h
          refine awl_runp 2 [2, 8, 9, 25, 26, 27] [2, 22] (ob := (InR (v27 + (1 : Int)) ∧ True ∧ True)) (st' := (⟨55, [(2, [], .v (.c (.ptr 2 0))), (8, [], .v (.c (.p (.int .i64) ((m.2.2.1.getD (atv).toNat ([] : (List Int))).getD ((w.getD (v27).toNat (0 : Int))).toNat (0 : Int))))), (9, [], .v (.c (.own 22))), (25, [], .v (.c (.p (.sl (.int .i64)) w))), (26, [], .v (.c (.p (.int .i64) (w.length : Int)))), (27, [], .v (.c (.p (.int .i64) (v27 + (1 : Int)))))], [(2, [], .box [.p (.int .i64) m.1, .p (.int .i64) m.2.1, .p (.sl (.sl (.int .i64))) m.2.2.1, .p (.int .i64) m.2.2.2.1, .p (.int .u32) m.2.2.2.2]), (22, [], .dict (.int .i64) (.int .i64) (mset visited ((m.2.2.1.getD (atv).toNat ([] : (List Int))).getD ((w.getD (v27).toNat (0 : Int))).toNat (0 : Int)) (v27 + (1 : Int))))]⟩ : St)) (by kernel_rfl) ⟨o1, trivial, trivial⟩ ?_
          refine awl_nil ?_
          exact thenQ_n ⟨(((m.2.2.1.getD (atv).toNat ([] : (List Int))).getD ((w.getD (v27).toNat (0 : Int))).toNat (0 : Int)), (v27 + (1 : Int)), (mset visited ((m.2.2.1.getD (atv).toNat ([] : (List Int))).getD ((w.getD (v27).toNat (0 : Int))).toNat (0 : Int)) (v27 + (1 : Int)))), rfl, h⟩
      · have h := h.2 hb
        refine aw_conv [.prune [] []] (st' := (⟨55, [], []⟩ : St)) (by kernel_rfl) ?_
        refine aw_exit ?_
        refine thenQ_x ?_
        refine thenQ_x ?_
        refine blockQ_hit ?_
        exact rest1 () h

-- coppicer/coppicerkeep.TallyPump
def VC11_k1 (m : (Int × (Int × ((List (List Int)) × (Int × Int))))) (w : (List Int)) (K : Bool → Prop) (ret21v : Int × Int × Int) (x : (List Int)) : Prop :=
  ((0 ≤ ret21v.2.1 ∧ ret21v.2.1 ≤ (w.length : Int)) ∧ roomN (x.length + (w.drop (ret21v.2.1).toNat).length) ∧ VC15 m w (fun (ret87v : Int × Bool × Int) => VC15 m (x ++ (w.drop (ret21v.2.1).toNat)) (fun (ret94v : Int × Bool × Int) => K ((decide (ret87v.2.2 = (0 : Int))) && (((decide ((12 : Int) < ((x ++ (w.drop (ret21v.2.1).toNat)).length : Int))) && (!decide (ret94v.2.2 = (0 : Int)))) || (((decide (ret94v.2.2 = (0 : Int))) && (decide (ret87v.1 = ret94v.1))) && (ret87v.2.1 == ret94v.2.1)))))))

def VC11_l1 (m : (Int × (Int × ((List (List Int)) × (Int × Int))))) (w : (List Int)) (often : Int) (K : Bool → Prop) (ret21v : Int × Int × Int) (k : Int) (x : (List Int)) (X1 : Int × (List Int) → Prop) : Prop :=
  ((0 ≤ often ∧ 0 < (4 : Int)) ∧ (((decide (k < (often % (4 : Int)))) = true → ((0 ≤ ret21v.1 ∧ ret21v.1 ≤ ret21v.2.1 ∧ ret21v.2.1 ≤ (w.length : Int)) ∧ roomN (x.length + ((w.take (ret21v.2.1).toNat).drop (ret21v.1).toNat).length) ∧ (InR (k + (1 : Int)) ∧ X1 ((k + (1 : Int)), (x ++ ((w.take (ret21v.2.1).toNat).drop (ret21v.1).toNat)))))) ∧ ((decide (k < (often % (4 : Int)))) = false → VC11_k1 m w K ret21v x)))

def VC11 (m : (Int × (Int × ((List (List Int)) × (Int × Int))))) (w : (List Int)) (often : Int) (K : Bool → Prop) : Prop :=
  VC32 m w (fun (ret21v : Int × Int × Int) => VC16 m w (fun (ret27v : Bool) => (((!ret27v) = true → K (!decide (ret21v.2.2 = (0 : Int)))) ∧ ((!ret27v) = false → (((!decide (ret21v.2.2 = (0 : Int))) = true → K ((decide (ret21v.2.2 = (5 : Int))) && (decide ((w.length : Int) < m.1)))) ∧ ((!decide (ret21v.2.2 = (0 : Int))) = false → ((((((decide (ret21v.1 < (0 : Int))) || (decide (ret21v.2.1 ≤ ret21v.1))) || (decide ((w.length : Int) < ret21v.2.1))) || (decide (m.1 < ret21v.2.1))) = true → K false) ∧ (((((decide (ret21v.1 < (0 : Int))) || (decide (ret21v.2.1 ≤ ret21v.1))) || (decide ((w.length : Int) < ret21v.2.1))) || (decide (m.1 < ret21v.2.1))) = false → ((0 ≤ ret21v.1 ∧ ret21v.1 ≤ (w.length : Int)) ∧ roomN (([] : List Int).length + (w.take (ret21v.1).toNat).length) ∧ Loop (σ := Int × (List Int)) (fun s X => VC11_l1 m w often K ret21v s.1 s.2 X) ((0 : Int), (([] : List Int) ++ (w.take (ret21v.1).toNat))))))))))))

set_option maxHeartbeats 4000000 in
theorem link11 (m : (Int × (Int × ((List (List Int)) × (Int × Int))))) (w : (List Int)) (often : Int) (K : Bool → Prop) (h : VC11 m w often K) : ACalls Try.prog 11 [toV1 (.pr (.int .i64) (.pr (.int .i64) (.pr (.sl (.sl (.int .i64))) (.pr (.int .i64) (.int .u32))))) m, toV1 (.sl (.int .i64)) w, toV1 (.int .u8) often] (fun res => ∃ y, res = (fun y => [toV1 .bool y]) y ∧ K y) := by
  refine acalls_of_aw [.bool] [.t 6] Try.func11 rfl rfl rfl ?_
  unfold VC11 at h
  refine aw_seq ?_
  refine aw_region ?_
  refine awl_runp 2 [1, 2, 3] [3] (ob := (True ∧ True ∧ True)) (st' := (⟨123, [(1, [], .v (.c (.p (.sl (.int .i64)) w))), (2, [], .v (.c (.p (.int .u8) often))), (3, [], .v (.c (.ptr 3 0)))], [(3, [], .box [.p (.int .i64) m.1, .p (.int .i64) m.2.1, .p (.sl (.sl (.int .i64))) m.2.2.1, .p (.int .i64) m.2.2.2.1, .p (.int .u32) m.2.2.2.2])]⟩ : St)) (by kernel_rfl) ⟨trivial, trivial, trivial⟩ ?_
  refine awl_nil ?_
  refine thenQ_n ?_
  refine aw_seq ?_
  refine aw_region ?_
  refine awl_runp 2 [1, 2, 3, 19, 20] [3] (ob := (True ∧ True ∧ True)) (st' := (⟨123, [(1, [], .v (.c (.p (.sl (.int .i64)) w))), (2, [], .v (.c (.p (.int .u8) often))), (3, [], .v (.c (.ptr 3 0))), (19, [], .v (.agg [.p (.int .i64) m.1, .p (.int .i64) m.2.1, .p (.sl (.sl (.int .i64))) m.2.2.1, .p (.int .i64) m.2.2.2.1, .p (.int .u32) m.2.2.2.2])), (20, [], .v (.c (.p (.sl (.int .i64)) w)))], [(3, [], .box [.p (.int .i64) m.1, .p (.int .i64) m.2.1, .p (.sl (.sl (.int .i64))) m.2.2.1, .p (.int .i64) m.2.2.2.1, .p (.int .u32) m.2.2.2.2])]⟩ : St)) (by kernel_rfl) ⟨trivial, trivial, trivial⟩ ?_
  refine awl_callk (p := []) (l := [toV1 (.pr (.int .i64) (.pr (.int .i64) (.pr (.sl (.sl (.int .i64))) (.pr (.int .i64) (.int .u32))))) m, toV1 (.sl (.int .i64)) w]) (cl := []) false [.d (.pr (.int .i64) (.pr (.int .i64) (.pr (.sl (.sl (.int .i64))) (.pr (.int .i64) (.int .u32))))), .d (.sl (.int .i64))] [1, 2, 3, 21] [3] (fun (ret21v : Int × Int × Int) => VC16 m w (fun (ret27v : Bool) => (((!ret27v) = true → K (!decide (ret21v.2.2 = (0 : Int)))) ∧ ((!ret27v) = false → (((!decide (ret21v.2.2 = (0 : Int))) = true → K ((decide (ret21v.2.2 = (5 : Int))) && (decide ((w.length : Int) < m.1)))) ∧ ((!decide (ret21v.2.2 = (0 : Int))) = false → ((((((decide (ret21v.1 < (0 : Int))) || (decide (ret21v.2.1 ≤ ret21v.1))) || (decide ((w.length : Int) < ret21v.2.1))) || (decide (m.1 < ret21v.2.1))) = true → K false) ∧ (((((decide (ret21v.1 < (0 : Int))) || (decide (ret21v.2.1 ≤ ret21v.1))) || (decide ((w.length : Int) < ret21v.2.1))) || (decide (m.1 < ret21v.2.1))) = false → ((0 ≤ ret21v.1 ∧ ret21v.1 ≤ (w.length : Int)) ∧ roomN (([] : List Int).length + (w.take (ret21v.1).toNat).length) ∧ Loop (σ := Int × (List Int)) (fun s X => VC11_l1 m w often K ret21v s.1 s.2 X) ((0 : Int), (([] : List Int) ++ (w.take (ret21v.1).toNat)))))))))))) (fun ret21v => [toV1 (.int .i64) ret21v.1, toV1 (.int .i64) ret21v.2.1, toV1 (.int .i64) ret21v.2.2]) (fun ret21v => (⟨123, [(1, [], .v (.c (.p (.sl (.int .i64)) w))), (2, [], .v (.c (.p (.int .u8) often))), (3, [], .v (.c (.ptr 3 0))), (21, [], .tup [.c (.p (.int .i64) ret21v.1), .c (.p (.int .i64) ret21v.2.1), .c (.p (.int .i64) ret21v.2.2)])], [(3, [], .box [.p (.int .i64) m.1, .p (.int .i64) m.2.1, .p (.sl (.sl (.int .i64))) m.2.2.1, .p (.int .i64) m.2.2.2.1, .p (.int .u32) m.2.2.2.2])]⟩ : St)) (by kernel_rfl) rfl (by kernel_rfl) rfl (by kernel_rfl) Try.call32 (by kernel_rfl) (fun ret21v => by kernel_rfl) (fun e => by cases e) (fun hg => link32 m w _ h) (fun hg => noF hg) (fun ret21v h => ?_)
  have h : VC16 m w (fun (ret27v : Bool) => (((!ret27v) = true → K (!decide (ret21v.2.2 = (0 : Int)))) ∧ ((!ret27v) = false → (((!decide (ret21v.2.2 = (0 : Int))) = true → K ((decide (ret21v.2.2 = (5 : Int))) && (decide ((w.length : Int) < m.1)))) ∧ ((!decide (ret21v.2.2 = (0 : Int))) = false → ((((((decide (ret21v.1 < (0 : Int))) || (decide (ret21v.2.1 ≤ ret21v.1))) || (decide ((w.length : Int) < ret21v.2.1))) || (decide (m.1 < ret21v.2.1))) = true → K false) ∧ (((((decide (ret21v.1 < (0 : Int))) || (decide (ret21v.2.1 ≤ ret21v.1))) || (decide ((w.length : Int) < ret21v.2.1))) || (decide (m.1 < ret21v.2.1))) = false → ((0 ≤ ret21v.1 ∧ ret21v.1 ≤ (w.length : Int)) ∧ roomN (([] : List Int).length + (w.take (ret21v.1).toNat).length) ∧ Loop (σ := Int × (List Int)) (fun s X => VC11_l1 m w often K ret21v s.1 s.2 X) ((0 : Int), (([] : List Int) ++ (w.take (ret21v.1).toNat))))))))))) := h
  refine awl_runp 7 [1, 2, 3, 7, 8, 9] [3] (ob := (True ∧ True ∧ True ∧ True ∧ True ∧ True ∧ True ∧ True)) (st' := (⟨123, [(1, [], .v (.c (.p (.sl (.int .i64)) w))), (2, [], .v (.c (.p (.int .u8) often))), (3, [], .v (.c (.ptr 3 0))), (7, [], .v (.c (.p (.int .i64) ret21v.1))), (8, [], .v (.c (.p (.int .i64) ret21v.2.1))), (9, [], .v (.c (.p (.int .i64) ret21v.2.2)))], [(3, [], .box [.p (.int .i64) m.1, .p (.int .i64) m.2.1, .p (.sl (.sl (.int .i64))) m.2.2.1, .p (.int .i64) m.2.2.2.1, .p (.int .u32) m.2.2.2.2])]⟩ : St)) (by kernel_rfl) ⟨trivial, trivial, trivial, trivial, trivial, trivial, trivial, trivial⟩ ?_
  refine awl_nil ?_
  refine thenQ_n ?_
  refine aw_seq ?_
  refine aw_seq ?_
  refine aw_region ?_
  refine awl_runp 2 [1, 2, 3, 7, 8, 9, 25, 26] [3] (ob := (True ∧ True ∧ True)) (st' := (⟨123, [(1, [], .v (.c (.p (.sl (.int .i64)) w))), (2, [], .v (.c (.p (.int .u8) often))), (3, [], .v (.c (.ptr 3 0))), (7, [], .v (.c (.p (.int .i64) ret21v.1))), (8, [], .v (.c (.p (.int .i64) ret21v.2.1))), (9, [], .v (.c (.p (.int .i64) ret21v.2.2))), (25, [], .v (.agg [.p (.int .i64) m.1, .p (.int .i64) m.2.1, .p (.sl (.sl (.int .i64))) m.2.2.1, .p (.int .i64) m.2.2.2.1, .p (.int .u32) m.2.2.2.2])), (26, [], .v (.c (.p (.sl (.int .i64)) w)))], [(3, [], .box [.p (.int .i64) m.1, .p (.int .i64) m.2.1, .p (.sl (.sl (.int .i64))) m.2.2.1, .p (.int .i64) m.2.2.2.1, .p (.int .u32) m.2.2.2.2])]⟩ : St)) (by kernel_rfl) ⟨trivial, trivial, trivial⟩ ?_
  refine awl_callk (p := []) (l := [toV1 (.pr (.int .i64) (.pr (.int .i64) (.pr (.sl (.sl (.int .i64))) (.pr (.int .i64) (.int .u32))))) m, toV1 (.sl (.int .i64)) w]) (cl := []) false [.d (.pr (.int .i64) (.pr (.int .i64) (.pr (.sl (.sl (.int .i64))) (.pr (.int .i64) (.int .u32))))), .d (.sl (.int .i64))] [1, 2, 3, 7, 8, 9, 27] [3] (fun (ret27v : Bool) => (((!ret27v) = true → K (!decide (ret21v.2.2 = (0 : Int)))) ∧ ((!ret27v) = false → (((!decide (ret21v.2.2 = (0 : Int))) = true → K ((decide (ret21v.2.2 = (5 : Int))) && (decide ((w.length : Int) < m.1)))) ∧ ((!decide (ret21v.2.2 = (0 : Int))) = false → ((((((decide (ret21v.1 < (0 : Int))) || (decide (ret21v.2.1 ≤ ret21v.1))) || (decide ((w.length : Int) < ret21v.2.1))) || (decide (m.1 < ret21v.2.1))) = true → K false) ∧ (((((decide (ret21v.1 < (0 : Int))) || (decide (ret21v.2.1 ≤ ret21v.1))) || (decide ((w.length : Int) < ret21v.2.1))) || (decide (m.1 < ret21v.2.1))) = false → ((0 ≤ ret21v.1 ∧ ret21v.1 ≤ (w.length : Int)) ∧ roomN (([] : List Int).length + (w.take (ret21v.1).toNat).length) ∧ Loop (σ := Int × (List Int)) (fun s X => VC11_l1 m w often K ret21v s.1 s.2 X) ((0 : Int), (([] : List Int) ++ (w.take (ret21v.1).toNat))))))))))) (fun ret27v => [toV1 .bool ret27v]) (fun ret27v => (⟨123, [(1, [], .v (.c (.p (.sl (.int .i64)) w))), (2, [], .v (.c (.p (.int .u8) often))), (3, [], .v (.c (.ptr 3 0))), (7, [], .v (.c (.p (.int .i64) ret21v.1))), (8, [], .v (.c (.p (.int .i64) ret21v.2.1))), (9, [], .v (.c (.p (.int .i64) ret21v.2.2))), (27, [], .v (.c (.p .bool ret27v)))], [(3, [], .box [.p (.int .i64) m.1, .p (.int .i64) m.2.1, .p (.sl (.sl (.int .i64))) m.2.2.1, .p (.int .i64) m.2.2.2.1, .p (.int .u32) m.2.2.2.2])]⟩ : St)) (by kernel_rfl) rfl (by kernel_rfl) rfl (by kernel_rfl) Try.call16 (by kernel_rfl) (fun ret27v => by kernel_rfl) (fun e => by cases e) (fun hg => link16 m w _ h) (fun hg => noF hg) (fun ret27v h => ?_)
  have h : (((!ret27v) = true → K (!decide (ret21v.2.2 = (0 : Int)))) ∧ ((!ret27v) = false → (((!decide (ret21v.2.2 = (0 : Int))) = true → K ((decide (ret21v.2.2 = (5 : Int))) && (decide ((w.length : Int) < m.1)))) ∧ ((!decide (ret21v.2.2 = (0 : Int))) = false → ((((((decide (ret21v.1 < (0 : Int))) || (decide (ret21v.2.1 ≤ ret21v.1))) || (decide ((w.length : Int) < ret21v.2.1))) || (decide (m.1 < ret21v.2.1))) = true → K false) ∧ (((((decide (ret21v.1 < (0 : Int))) || (decide (ret21v.2.1 ≤ ret21v.1))) || (decide ((w.length : Int) < ret21v.2.1))) || (decide (m.1 < ret21v.2.1))) = false → ((0 ≤ ret21v.1 ∧ ret21v.1 ≤ (w.length : Int)) ∧ roomN (([] : List Int).length + (w.take (ret21v.1).toNat).length) ∧ Loop (σ := Int × (List Int)) (fun s X => VC11_l1 m w often K ret21v s.1 s.2 X) ((0 : Int), (([] : List Int) ++ (w.take (ret21v.1).toNat)))))))))) := h
  refine awl_runp 1 [1, 2, 3, 7, 8, 9, 28] [3] (ob := (True ∧ True)) (st' := (⟨123, [(1, [], .v (.c (.p (.sl (.int .i64)) w))), (2, [], .v (.c (.p (.int .u8) often))), (3, [], .v (.c (.ptr 3 0))), (7, [], .v (.c (.p (.int .i64) ret21v.1))), (8, [], .v (.c (.p (.int .i64) ret21v.2.1))), (9, [], .v (.c (.p (.int .i64) ret21v.2.2))), (28, [], .v (.c (.p .bool (!ret27v))))], [(3, [], .box [.p (.int .i64) m.1, .p (.int .i64) m.2.1, .p (.sl (.sl (.int .i64))) m.2.2.1, .p (.int .i64) m.2.2.2.1, .p (.int .u32) m.2.2.2.2])]⟩ : St)) (by kernel_rfl) ⟨trivial, trivial⟩ ?_
  refine awl_nil ?_
  refine thenQ_n ?_
  refine aw_cond (b := (!ret27v)) (by kernel_rfl) (fun hb => ?_) (fun hb => ?_)
  · have h := h.1 hb
    refine aw_seq ?_
    refine aw_region ?_
    refine awl_runp 3 [6] [] (ob := (True ∧ True ∧ True ∧ True)) (st' := (⟨123, [(6, [], .v (.c (.p .bool (!decide (ret21v.2.2 = (0 : Int))))))], []⟩ : St)) (by kernel_rfl) ⟨trivial, trivial, trivial, trivial⟩ ?_
    refine awl_nil ?_
    refine thenQ_n ?_
    refine aw_ret ?_
    refine thenQ_r ?_
    exact retQ_r (σ := Bool) (R := (fun y => [toV1 .bool y])) (ob := (True ∧ True)) (!decide (ret21v.2.2 = (0 : Int))) (by kernel_rfl) ⟨trivial, trivial⟩ h
  · have h := h.2 hb
    refine aw_skip ?_
    refine thenQ_n ?_
    refine aw_seq ?_
    refine aw_seq ?_
    refine aw_region ?_
    refine awl_runp 2 [1, 2, 3, 7, 8, 9, 32] [3] (ob := (True ∧ True ∧ True)) (st' := (⟨123, [(1, [], .v (.c (.p (.sl (.int .i64)) w))), (2, [], .v (.c (.p (.int .u8) often))), (3, [], .v (.c (.ptr 3 0))), (7, [], .v (.c (.p (.int .i64) ret21v.1))), (8, [], .v (.c (.p (.int .i64) ret21v.2.1))), (9, [], .v (.c (.p (.int .i64) ret21v.2.2))), (32, [], .v (.c (.p .bool (!decide (ret21v.2.2 = (0 : Int))))))], [(3, [], .box [.p (.int .i64) m.1, .p (.int .i64) m.2.1, .p (.sl (.sl (.int .i64))) m.2.2.1, .p (.int .i64) m.2.2.2.1, .p (.int .u32) m.2.2.2.2])]⟩ : St)) (by kernel_rfl) ⟨trivial, trivial, trivial⟩ ?_
    refine awl_nil ?_
    refine thenQ_n ?_
    refine aw_cond (b := (!decide (ret21v.2.2 = (0 : Int)))) (by kernel_rfl) (fun hb => ?_) (fun hb => ?_)
    · have h := h.1 hb
      refine aw_seq ?_
      refine aw_region ?_
      refine awl_runp 10 [6] [] (ob := (True ∧ True ∧ True ∧ ((decide (ret21v.2.2 = (5 : Int))) = true → True) ∧ ((decide (ret21v.2.2 = (5 : Int))) = true → True) ∧ ((decide (ret21v.2.2 = (5 : Int))) = true → True) ∧ ((decide (ret21v.2.2 = (5 : Int))) = true → True) ∧ ((decide (ret21v.2.2 = (5 : Int))) = true → True) ∧ True ∧ True ∧ True)) (st' := (⟨123, [(6, [], .v (.c (.p .bool ((decide (ret21v.2.2 = (5 : Int))) && (decide ((w.length : Int) < m.1))))))], []⟩ : St)) (by kernel_rfl) ⟨trivial, trivial, trivial, (fun _ => trivial), (fun _ => trivial), (fun _ => trivial), (fun _ => trivial), (fun _ => trivial), trivial, trivial, trivial⟩ ?_
      refine awl_nil ?_
      refine thenQ_n ?_
      refine aw_ret ?_
      refine thenQ_r ?_
      exact retQ_r (σ := Bool) (R := (fun y => [toV1 .bool y])) (ob := (True ∧ True)) ((decide (ret21v.2.2 = (5 : Int))) && (decide ((w.length : Int) < m.1))) (by kernel_rfl) ⟨trivial, trivial⟩ h
    · have h := h.2 hb
      refine aw_skip ?_
      refine thenQ_n ?_
      refine aw_seq ?_
      refine aw_seq ?_
      refine aw_region ?_
      refine awl_runp 19 [1, 2, 3, 7, 8, 60] [3] (ob := (True ∧ True ∧ True ∧ ((decide (ret21v.1 < (0 : Int))) = false → True) ∧ ((decide (ret21v.1 < (0 : Int))) = false → True) ∧ ((decide (ret21v.1 < (0 : Int))) = false → True) ∧ True ∧ True ∧ (((decide (ret21v.1 < (0 : Int))) || (decide (ret21v.2.1 ≤ ret21v.1))) = false → True) ∧ (((decide (ret21v.1 < (0 : Int))) || (decide (ret21v.2.1 ≤ ret21v.1))) = false → True) ∧ (((decide (ret21v.1 < (0 : Int))) || (decide (ret21v.2.1 ≤ ret21v.1))) = false → True) ∧ (((decide (ret21v.1 < (0 : Int))) || (decide (ret21v.2.1 ≤ ret21v.1))) = false → True) ∧ True ∧ True ∧ ((((decide (ret21v.1 < (0 : Int))) || (decide (ret21v.2.1 ≤ ret21v.1))) || (decide ((w.length : Int) < ret21v.2.1))) = false → True) ∧ ((((decide (ret21v.1 < (0 : Int))) || (decide (ret21v.2.1 ≤ ret21v.1))) || (decide ((w.length : Int) < ret21v.2.1))) = false → True) ∧ ((((decide (ret21v.1 < (0 : Int))) || (decide (ret21v.2.1 ≤ ret21v.1))) || (decide ((w.length : Int) < ret21v.2.1))) = false → True) ∧ ((((decide (ret21v.1 < (0 : Int))) || (decide (ret21v.2.1 ≤ ret21v.1))) || (decide ((w.length : Int) < ret21v.2.1))) = false → True) ∧ True ∧ True)) (st' := (⟨123, [(1, [], .v (.c (.p (.sl (.int .i64)) w))), (2, [], .v (.c (.p (.int .u8) often))), (3, [], .v (.c (.ptr 3 0))), (7, [], .v (.c (.p (.int .i64) ret21v.1))), (8, [], .v (.c (.p (.int .i64) ret21v.2.1))), (60, [], .v (.c (.p .bool ((((decide (ret21v.1 < (0 : Int))) || (decide (ret21v.2.1 ≤ ret21v.1))) || (decide ((w.length : Int) < ret21v.2.1))) || (decide (m.1 < ret21v.2.1))))))], [(3, [], .box [.p (.int .i64) m.1, .p (.int .i64) m.2.1, .p (.sl (.sl (.int .i64))) m.2.2.1, .p (.int .i64) m.2.2.2.1, .p (.int .u32) m.2.2.2.2])]⟩ : St)) (by kernel_rfl) ⟨trivial, trivial, trivial, (fun _ => trivial), (fun _ => trivial), (fun _ => trivial), trivial, trivial, (fun _ => trivial), (fun _ => trivial), (fun _ => trivial), (fun _ => trivial), trivial, trivial, (fun _ => trivial), (fun _ => trivial), (fun _ => trivial), (fun _ => trivial), trivial, trivial⟩ ?_
      refine awl_nil ?_
      refine thenQ_n ?_
      refine aw_cond (b := ((((decide (ret21v.1 < (0 : Int))) || (decide (ret21v.2.1 ≤ ret21v.1))) || (decide ((w.length : Int) < ret21v.2.1))) || (decide (m.1 < ret21v.2.1)))) (by kernel_rfl) (fun hb => ?_) (fun hb => ?_)
      · have h := h.1 hb
        refine aw_seq ?_
        refine aw_region ?_
        refine awl_runp 1 [6] [] (ob := (True ∧ True)) (st' := (⟨123, [(6, [], .v (.c (.p .bool false)))], []⟩ : St)) (by kernel_rfl) ⟨trivial, trivial⟩ ?_
        refine awl_nil ?_
        refine thenQ_n ?_
        refine aw_ret ?_
        refine thenQ_r ?_
        exact retQ_r (σ := Bool) (R := (fun y => [toV1 .bool y])) (ob := (True ∧ True)) false (by kernel_rfl) ⟨trivial, trivial⟩ h
      · have h := h.2 hb
        refine aw_skip ?_
        refine thenQ_n ?_
        refine aw_seq ?_
        refine aw_region ?_
        obtain ⟨o1, o2, h⟩ := h
        refine awl_runp 6 [1, 2, 3, 7, 8, 10] [3, 65] (ob := (True ∧ True ∧ True ∧ (0 ≤ ret21v.1 ∧ ret21v.1 ≤ (w.length : Int)) ∧ roomN (([] : List Int).length + (w.take (ret21v.1).toNat).length) ∧ True ∧ True)) (st' := (⟨123, [(1, [], .v (.c (.p (.sl (.int .i64)) w))), (2, [], .v (.c (.p (.int .u8) often))), (3, [], .v (.c (.ptr 3 0))), (7, [], .v (.c (.p (.int .i64) ret21v.1))), (8, [], .v (.c (.p (.int .i64) ret21v.2.1))), (10, [], .v (.c (.own 65)))], [(3, [], .box [.p (.int .i64) m.1, .p (.int .i64) m.2.1, .p (.sl (.sl (.int .i64))) m.2.2.1, .p (.int .i64) m.2.2.2.1, .p (.int .u32) m.2.2.2.2]), (65, [], .arr 3 (.int .i64) (([] : List Int) ++ (w.take (ret21v.1).toNat)))]⟩ : St)) (by kernel_rfl) ⟨trivial, trivial, trivial, o1, o2, trivial, trivial⟩ ?_
        refine awl_nil ?_
        refine thenQ_n ?_
        refine aw_seq ?_
        refine aw_seq ?_
        refine aw_region ?_
        refine awl_runp 1 [1, 2, 3, 7, 8, 10, 11] [3, 65] (ob := (True ∧ True)) (st' := (⟨123, [(1, [], .v (.c (.p (.sl (.int .i64)) w))), (2, [], .v (.c (.p (.int .u8) often))), (3, [], .v (.c (.ptr 3 0))), (7, [], .v (.c (.p (.int .i64) ret21v.1))), (8, [], .v (.c (.p (.int .i64) ret21v.2.1))), (10, [], .v (.c (.own 65))), (11, [], .v (.c (.p (.int .i64) (0 : Int))))], [(3, [], .box [.p (.int .i64) m.1, .p (.int .i64) m.2.1, .p (.sl (.sl (.int .i64))) m.2.2.1, .p (.int .i64) m.2.2.2.1, .p (.int .u32) m.2.2.2.2]), (65, [], .arr 3 (.int .i64) (([] : List Int) ++ (w.take (ret21v.1).toNat)))]⟩ : St)) (by kernel_rfl) ⟨trivial, trivial⟩ ?_
        refine awl_nil ?_
        refine thenQ_n ?_
        refine withJoin (σ := (List Int)) (fun s => (⟨123, [(1, [], .v (.c (.p (.sl (.int .i64)) w))), (3, [], .v (.c (.ptr 3 0))), (8, [], .v (.c (.p (.int .i64) ret21v.2.1))), (10, [], .v (.c (.own 65)))], [(3, [], .box [.p (.int .i64) m.1, .p (.int .i64) m.2.1, .p (.sl (.sl (.int .i64))) m.2.2.1, .p (.int .i64) m.2.2.2.1, .p (.int .u32) m.2.2.2.2]), (65, [], .arr 3 (.int .i64) s)]⟩ : St)) (fun s => VC11_k1 m w K ret21v s) (fun x h => ?_) (fun rest1 => ?_)
        · have h : VC11_k1 m w K ret21v x := h
          unfold VC11_k1 at h
          refine thenQ_n ?_
          refine aw_seq ?_
          refine aw_region ?_
          obtain ⟨o1, o2, h⟩ := h
          refine awl_runp 6 [1, 3, 10] [3, 83] (ob := (True ∧ True ∧ True ∧ (0 ≤ ret21v.2.1 ∧ ret21v.2.1 ≤ (w.length : Int)) ∧ roomN (x.length + (w.drop (ret21v.2.1).toNat).length) ∧ True ∧ True)) (st' := (⟨123, [(1, [], .v (.c (.p (.sl (.int .i64)) w))), (3, [], .v (.c (.ptr 3 0))), (10, [], .v (.c (.own 83)))], [(3, [], .box [.p (.int .i64) m.1, .p (.int .i64) m.2.1, .p (.sl (.sl (.int .i64))) m.2.2.1, .p (.int .i64) m.2.2.2.1, .p (.int .u32) m.2.2.2.2]), (83, [], .arr 3 (.int .i64) (x ++ (w.drop (ret21v.2.1).toNat)))]⟩ : St)) (by kernel_rfl) ⟨trivial, trivial, trivial, o1, o2, trivial, trivial⟩ ?_
          refine awl_nil ?_
          refine thenQ_n ?_
          refine aw_seq ?_
          refine aw_region ?_
          refine awl_runp 2 [3, 10, 85, 86] [3, 83] (ob := (True ∧ True ∧ True)) (st' := (⟨123, [(3, [], .v (.c (.ptr 3 0))), (10, [], .v (.c (.own 83))), (85, [], .v (.agg [.p (.int .i64) m.1, .p (.int .i64) m.2.1, .p (.sl (.sl (.int .i64))) m.2.2.1, .p (.int .i64) m.2.2.2.1, .p (.int .u32) m.2.2.2.2])), (86, [], .v (.c (.p (.sl (.int .i64)) w)))], [(3, [], .box [.p (.int .i64) m.1, .p (.int .i64) m.2.1, .p (.sl (.sl (.int .i64))) m.2.2.1, .p (.int .i64) m.2.2.2.1, .p (.int .u32) m.2.2.2.2]), (83, [], .arr 3 (.int .i64) (x ++ (w.drop (ret21v.2.1).toNat)))]⟩ : St)) (by kernel_rfl) ⟨trivial, trivial, trivial⟩ ?_
          refine awl_callk (p := []) (l := [toV1 (.pr (.int .i64) (.pr (.int .i64) (.pr (.sl (.sl (.int .i64))) (.pr (.int .i64) (.int .u32))))) m, toV1 (.sl (.int .i64)) w]) (cl := []) false [.d (.pr (.int .i64) (.pr (.int .i64) (.pr (.sl (.sl (.int .i64))) (.pr (.int .i64) (.int .u32))))), .d (.sl (.int .i64))] [3, 10, 87] [3, 83] (fun (ret87v : Int × Bool × Int) => VC15 m (x ++ (w.drop (ret21v.2.1).toNat)) (fun (ret94v : Int × Bool × Int) => K ((decide (ret87v.2.2 = (0 : Int))) && (((decide ((12 : Int) < ((x ++ (w.drop (ret21v.2.1).toNat)).length : Int))) && (!decide (ret94v.2.2 = (0 : Int)))) || (((decide (ret94v.2.2 = (0 : Int))) && (decide (ret87v.1 = ret94v.1))) && (ret87v.2.1 == ret94v.2.1)))))) (fun ret87v => [toV1 (.int .i64) ret87v.1, toV1 .bool ret87v.2.1, toV1 (.int .i64) ret87v.2.2]) (fun ret87v => (⟨123, [(3, [], .v (.c (.ptr 3 0))), (10, [], .v (.c (.own 83))), (87, [], .tup [.c (.p (.int .i64) ret87v.1), .c (.p .bool ret87v.2.1), .c (.p (.int .i64) ret87v.2.2)])], [(3, [], .box [.p (.int .i64) m.1, .p (.int .i64) m.2.1, .p (.sl (.sl (.int .i64))) m.2.2.1, .p (.int .i64) m.2.2.2.1, .p (.int .u32) m.2.2.2.2]), (83, [], .arr 3 (.int .i64) (x ++ (w.drop (ret21v.2.1).toNat)))]⟩ : St)) (by kernel_rfl) rfl (by kernel_rfl) rfl (by kernel_rfl) Try.call15 (by kernel_rfl) (fun ret87v => by kernel_rfl) (fun e => by cases e) (fun hg => link15 m w _ h) (fun hg => noF hg) (fun ret87v h => ?_)
          have h : VC15 m (x ++ (w.drop (ret21v.2.1).toNat)) (fun (ret94v : Int × Bool × Int) => K ((decide (ret87v.2.2 = (0 : Int))) && (((decide ((12 : Int) < ((x ++ (w.drop (ret21v.2.1).toNat)).length : Int))) && (!decide (ret94v.2.2 = (0 : Int)))) || (((decide (ret94v.2.2 = (0 : Int))) && (decide (ret87v.1 = ret94v.1))) && (ret87v.2.1 == ret94v.2.1))))) := h
          refine awl_runp 7 [3, 10, 12, 13, 14] [3, 83] (ob := (True ∧ True ∧ True ∧ True ∧ True ∧ True ∧ True ∧ True)) (st' := (⟨123, [(3, [], .v (.c (.ptr 3 0))), (10, [], .v (.c (.own 83))), (12, [], .v (.c (.p (.int .i64) ret87v.1))), (13, [], .v (.c (.p .bool ret87v.2.1))), (14, [], .v (.c (.p (.int .i64) ret87v.2.2)))], [(3, [], .box [.p (.int .i64) m.1, .p (.int .i64) m.2.1, .p (.sl (.sl (.int .i64))) m.2.2.1, .p (.int .i64) m.2.2.2.1, .p (.int .u32) m.2.2.2.2]), (83, [], .arr 3 (.int .i64) (x ++ (w.drop (ret21v.2.1).toNat)))]⟩ : St)) (by kernel_rfl) ⟨trivial, trivial, trivial, trivial, trivial, trivial, trivial, trivial⟩ ?_
          refine awl_nil ?_
          refine thenQ_n ?_
          refine aw_seq ?_
          refine aw_region ?_
          refine awl_runp 2 [10, 12, 13, 14, 92, 93] [83] (ob := (True ∧ True ∧ True)) (st' := (⟨123, [(10, [], .v (.c (.own 83))), (12, [], .v (.c (.p (.int .i64) ret87v.1))), (13, [], .v (.c (.p .bool ret87v.2.1))), (14, [], .v (.c (.p (.int .i64) ret87v.2.2))), (92, [], .v (.agg [.p (.int .i64) m.1, .p (.int .i64) m.2.1, .p (.sl (.sl (.int .i64))) m.2.2.1, .p (.int .i64) m.2.2.2.1, .p (.int .u32) m.2.2.2.2])), (93, [], .v (.c (.own 83)))], [(83, [], .arr 3 (.int .i64) (x ++ (w.drop (ret21v.2.1).toNat)))]⟩ : St)) (by kernel_rfl) ⟨trivial, trivial, trivial⟩ ?_
          refine awl_callk (p := []) (l := [toV1 (.pr (.int .i64) (.pr (.int .i64) (.pr (.sl (.sl (.int .i64))) (.pr (.int .i64) (.int .u32))))) m, toV1 (.sl (.int .i64)) (x ++ (w.drop (ret21v.2.1).toNat))]) (cl := []) true [.d (.pr (.int .i64) (.pr (.int .i64) (.pr (.sl (.sl (.int .i64))) (.pr (.int .i64) (.int .u32))))), .d (.sl (.int .i64))] [10, 12, 13, 14, 94] [83] (fun (ret94v : Int × Bool × Int) => K ((decide (ret87v.2.2 = (0 : Int))) && (((decide ((12 : Int) < ((x ++ (w.drop (ret21v.2.1).toNat)).length : Int))) && (!decide (ret94v.2.2 = (0 : Int)))) || (((decide (ret94v.2.2 = (0 : Int))) && (decide (ret87v.1 = ret94v.1))) && (ret87v.2.1 == ret94v.2.1))))) (fun ret94v => [toV1 (.int .i64) ret94v.1, toV1 .bool ret94v.2.1, toV1 (.int .i64) ret94v.2.2]) (fun ret94v => (⟨123, [(10, [], .v (.c (.own 83))), (12, [], .v (.c (.p (.int .i64) ret87v.1))), (13, [], .v (.c (.p .bool ret87v.2.1))), (14, [], .v (.c (.p (.int .i64) ret87v.2.2))), (94, [], .tup [.c (.p (.int .i64) ret94v.1), .c (.p .bool ret94v.2.1), .c (.p (.int .i64) ret94v.2.2)])], [(83, [], .arr 3 (.int .i64) (x ++ (w.drop (ret21v.2.1).toNat)))]⟩ : St)) (by kernel_rfl) rfl (by kernel_rfl) rfl (by kernel_rfl) Try.call15 (by kernel_rfl) (fun ret94v => by kernel_rfl) (fun _ _ => rfl) (fun hg => link15 m (x ++ (w.drop (ret21v.2.1).toNat)) _ h) (fun hg => noF hg) (fun ret94v h => ?_)
          have h : K ((decide (ret87v.2.2 = (0 : Int))) && (((decide ((12 : Int) < ((x ++ (w.drop (ret21v.2.1).toNat)).length : Int))) && (!decide (ret94v.2.2 = (0 : Int)))) || (((decide (ret94v.2.2 = (0 : Int))) && (decide (ret87v.1 = ret94v.1))) && (ret87v.2.1 == ret94v.2.1)))) := h
          refine awl_runp 7 [10, 12, 13, 14, 15, 16, 17] [83] (ob := (True ∧ True ∧ True ∧ True ∧ True ∧ True ∧ True ∧ True)) (st' := (⟨123, [(10, [], .v (.c (.own 83))), (12, [], .v (.c (.p (.int .i64) ret87v.1))), (13, [], .v (.c (.p .bool ret87v.2.1))), (14, [], .v (.c (.p (.int .i64) ret87v.2.2))), (15, [], .v (.c (.p (.int .i64) ret94v.1))), (16, [], .v (.c (.p .bool ret94v.2.1))), (17, [], .v (.c (.p (.int .i64) ret94v.2.2)))], [(83, [], .arr 3 (.int .i64) (x ++ (w.drop (ret21v.2.1).toNat)))]⟩ : St)) (by kernel_rfl) ⟨trivial, trivial, trivial, trivial, trivial, trivial, trivial, trivial⟩ ?_
          refine awl_nil ?_
          refine thenQ_n ?_
          refine aw_seq ?_
          refine aw_region ?_
          refine awl_runp 26 [6] [] (ob := (True ∧ True ∧ True ∧ ((decide (ret87v.2.2 = (0 : Int))) = true → True) ∧ ((decide (ret87v.2.2 = (0 : Int))) = true → True) ∧ ((decide (ret87v.2.2 = (0 : Int))) = true → True) ∧ ((decide (ret87v.2.2 = (0 : Int))) = true → True) ∧ ((decide (ret87v.2.2 = (0 : Int))) = true → ((decide ((12 : Int) < ((x ++ (w.drop (ret21v.2.1).toNat)).length : Int))) = true → True)) ∧ ((decide (ret87v.2.2 = (0 : Int))) = true → ((decide ((12 : Int) < ((x ++ (w.drop (ret21v.2.1).toNat)).length : Int))) = true → True)) ∧ ((decide (ret87v.2.2 = (0 : Int))) = true → True) ∧ ((decide (ret87v.2.2 = (0 : Int))) = true → True) ∧ ((decide (ret87v.2.2 = (0 : Int))) = true → (((decide ((12 : Int) < ((x ++ (w.drop (ret21v.2.1).toNat)).length : Int))) && (!decide (ret94v.2.2 = (0 : Int)))) = false → True)) ∧ ((decide (ret87v.2.2 = (0 : Int))) = true → (((decide ((12 : Int) < ((x ++ (w.drop (ret21v.2.1).toNat)).length : Int))) && (!decide (ret94v.2.2 = (0 : Int)))) = false → True)) ∧ ((decide (ret87v.2.2 = (0 : Int))) = true → (((decide ((12 : Int) < ((x ++ (w.drop (ret21v.2.1).toNat)).length : Int))) && (!decide (ret94v.2.2 = (0 : Int)))) = false → True)) ∧ ((decide (ret87v.2.2 = (0 : Int))) = true → (((decide ((12 : Int) < ((x ++ (w.drop (ret21v.2.1).toNat)).length : Int))) && (!decide (ret94v.2.2 = (0 : Int)))) = false → ((decide (ret94v.2.2 = (0 : Int))) = true → True))) ∧ ((decide (ret87v.2.2 = (0 : Int))) = true → (((decide ((12 : Int) < ((x ++ (w.drop (ret21v.2.1).toNat)).length : Int))) && (!decide (ret94v.2.2 = (0 : Int)))) = false → ((decide (ret94v.2.2 = (0 : Int))) = true → True))) ∧ ((decide (ret87v.2.2 = (0 : Int))) = true → (((decide ((12 : Int) < ((x ++ (w.drop (ret21v.2.1).toNat)).length : Int))) && (!decide (ret94v.2.2 = (0 : Int)))) = false → ((decide (ret94v.2.2 = (0 : Int))) = true → True))) ∧ ((decide (ret87v.2.2 = (0 : Int))) = true → (((decide ((12 : Int) < ((x ++ (w.drop (ret21v.2.1).toNat)).length : Int))) && (!decide (ret94v.2.2 = (0 : Int)))) = false → True)) ∧ ((decide (ret87v.2.2 = (0 : Int))) = true → (((decide ((12 : Int) < ((x ++ (w.drop (ret21v.2.1).toNat)).length : Int))) && (!decide (ret94v.2.2 = (0 : Int)))) = false → True)) ∧ ((decide (ret87v.2.2 = (0 : Int))) = true → (((decide ((12 : Int) < ((x ++ (w.drop (ret21v.2.1).toNat)).length : Int))) && (!decide (ret94v.2.2 = (0 : Int)))) = false → (((decide (ret94v.2.2 = (0 : Int))) && (decide (ret87v.1 = ret94v.1))) = true → True))) ∧ ((decide (ret87v.2.2 = (0 : Int))) = true → (((decide ((12 : Int) < ((x ++ (w.drop (ret21v.2.1).toNat)).length : Int))) && (!decide (ret94v.2.2 = (0 : Int)))) = false → (((decide (ret94v.2.2 = (0 : Int))) && (decide (ret87v.1 = ret94v.1))) = true → True))) ∧ ((decide (ret87v.2.2 = (0 : Int))) = true → (((decide ((12 : Int) < ((x ++ (w.drop (ret21v.2.1).toNat)).length : Int))) && (!decide (ret94v.2.2 = (0 : Int)))) = false → (((decide (ret94v.2.2 = (0 : Int))) && (decide (ret87v.1 = ret94v.1))) = true → True))) ∧ ((decide (ret87v.2.2 = (0 : Int))) = true → (((decide ((12 : Int) < ((x ++ (w.drop (ret21v.2.1).toNat)).length : Int))) && (!decide (ret94v.2.2 = (0 : Int)))) = false → True)) ∧ ((decide (ret87v.2.2 = (0 : Int))) = true → True) ∧ True ∧ True ∧ True)) (st' := (⟨123, [(6, [], .v (.c (.p .bool ((decide (ret87v.2.2 = (0 : Int))) && (((decide ((12 : Int) < ((x ++ (w.drop (ret21v.2.1).toNat)).length : Int))) && (!decide (ret94v.2.2 = (0 : Int)))) || (((decide (ret94v.2.2 = (0 : Int))) && (decide (ret87v.1 = ret94v.1))) && (ret87v.2.1 == ret94v.2.1)))))))], []⟩ : St)) (by kernel_rfl) ⟨trivial, trivial, trivial, (fun _ => trivial), (fun _ => trivial), (fun _ => trivial), (fun _ => trivial), (fun _ _ => trivial), (fun _ _ => trivial), (fun _ => trivial), (fun _ => trivial), (fun _ _ => trivial), (fun _ _ => trivial), (fun _ _ => trivial), (fun _ _ _ => trivial), (fun _ _ _ => trivial), (fun _ _ _ => trivial), (fun _ _ => trivial), (fun _ _ => trivial), (fun _ _ _ => trivial), (fun _ _ _ => trivial), (fun _ _ _ => trivial), (fun _ _ => trivial), (fun _ => trivial), trivial, trivial, trivial⟩ ?_
          refine awl_nil ?_
          refine thenQ_n ?_
          refine aw_ret ?_
          exact retQ_r (σ := Bool) (R := (fun y => [toV1 .bool y])) (ob := (True ∧ True)) ((decide (ret87v.2.2 = (0 : Int))) && (((decide ((12 : Int) < ((x ++ (w.drop (ret21v.2.1).toNat)).length : Int))) && (!decide (ret94v.2.2 = (0 : Int)))) || (((decide (ret94v.2.2 = (0 : Int))) && (decide (ret87v.1 = ret94v.1))) && (ret87v.2.1 == ret94v.2.1)))) (by kernel_rfl) ⟨trivial, trivial⟩ h
        · refine aw_block ?_
          refine aw_loop (σ := Int × (List Int)) (fun s => (⟨123, [(1, [], .v (.c (.p (.sl (.int .i64)) w))), (2, [], .v (.c (.p (.int .u8) often))), (3, [], .v (.c (.ptr 3 0))), (7, [], .v (.c (.p (.int .i64) ret21v.1))), (8, [], .v (.c (.p (.int .i64) ret21v.2.1))), (10, [], .v (.c (.own 65))), (11, [], .v (.c (.p (.int .i64) s.1)))], [(3, [], .box [.p (.int .i64) m.1, .p (.int .i64) m.2.1, .p (.sl (.sl (.int .i64))) m.2.2.1, .p (.int .i64) m.2.2.2.1, .p (.int .u32) m.2.2.2.2]), (65, [], .arr 3 (.int .i64) s.2)]⟩ : St)) (fun s X => VC11_l1 m w often K ret21v s.1 s.2 X) (s0 := ((0 : Int), (([] : List Int) ++ (w.take (ret21v.1).toNat)))) (fun s X1 h => ?_) h
          obtain ⟨k, x⟩ := s
          have h : VC11_l1 m w often K ret21v k x X1 := h
          unfold VC11_l1 at h
          refine aw_seq ?_
          refine aw_seq ?_
          refine aw_region ?_
          obtain ⟨o1, h⟩ := h
          refine awl_runp 5 [1, 2, 3, 7, 8, 10, 11, 70] [3, 65] (ob := (True ∧ True ∧ True ∧ (0 ≤ often ∧ 0 < (4 : Int)) ∧ True ∧ True)) (st' := (⟨123, [(1, [], .v (.c (.p (.sl (.int .i64)) w))), (2, [], .v (.c (.p (.int .u8) often))), (3, [], .v (.c (.ptr 3 0))), (7, [], .v (.c (.p (.int .i64) ret21v.1))), (8, [], .v (.c (.p (.int .i64) ret21v.2.1))), (10, [], .v (.c (.own 65))), (11, [], .v (.c (.p (.int .i64) k))), (70, [], .v (.c (.p .bool (decide (k < (often % (4 : Int)))))))], [(3, [], .box [.p (.int .i64) m.1, .p (.int .i64) m.2.1, .p (.sl (.sl (.int .i64))) m.2.2.1, .p (.int .i64) m.2.2.2.1, .p (.int .u32) m.2.2.2.2]), (65, [], .arr 3 (.int .i64) x)]⟩ : St)) (by kernel_rfl) ⟨trivial, trivial, trivial, o1, trivial, trivial⟩ ?_
          refine awl_nil ?_
          refine thenQ_n ?_
          refine aw_cond (b := (decide (k < (often % (4 : Int))))) (by kernel_rfl) (fun hb => ?_) (fun hb => ?_)
          · have h := h.1 hb
            refine aw_skip ?_
            refine thenQ_n ?_
            refine aw_seq ?_
            refine aw_block ?_
            refine aw_region ?_
            obtain ⟨o1, o2, h⟩ := h
            refine awl_runp 7 [1, 2, 3, 7, 8, 10, 11] [3, 78] (ob := (True ∧ True ∧ True ∧ True ∧ (0 ≤ ret21v.1 ∧ ret21v.1 ≤ ret21v.2.1 ∧ ret21v.2.1 ≤ (w.length : Int)) ∧ roomN (x.length + ((w.take (ret21v.2.1).toNat).drop (ret21v.1).toNat).length) ∧ True ∧ True)) (st' := (⟨123, [(1, [], .v (.c (.p (.sl (.int .i64)) w))), (2, [], .v (.c (.p (.int .u8) often))), (3, [], .v (.c (.ptr 3 0))), (7, [], .v (.c (.p (.int .i64) ret21v.1))), (8, [], .v (.c (.p (.int .i64) ret21v.2.1))), (10, [], .v (.c (.own 78))), (11, [], .v (.c (.p (.int .i64) k)))], [(3, [], .box [.p (.int .i64) m.1, .p (.int .i64) m.2.1, .p (.sl (.sl (.int .i64))) m.2.2.1, .p (.int .i64) m.2.2.2.1, .p (.int .u32) m.2.2.2.2]), (78, [], .arr 3 (.int .i64) (x ++ ((w.take (ret21v.2.1).toNat).drop (ret21v.1).toNat)))]⟩ : St)) (by kernel_rfl) ⟨trivial, trivial, trivial, trivial, o1, o2, trivial, trivial⟩ ?_
            refine awl_nil ?_
            refine blockQ_n ?_
            refine thenQ_n ?_
            refine aw_region ?_
            obtain ⟨o1, h⟩ := h
            refine awl_runp 3 [1, 2, 3, 7, 8, 10, 11] [3, 78] (ob := (True ∧ InR (k + (1 : Int)) ∧ True ∧ True)) (st' := (⟨123, [(1, [], .v (.c (.p (.sl (.int .i64)) w))), (2, [], .v (.c (.p (.int .u8) often))), (3, [], .v (.c (.ptr 3 0))), (7, [], .v (.c (.p (.int .i64) ret21v.1))), (8, [], .v (.c (.p (.int .i64) ret21v.2.1))), (10, [], .v (.c (.own 78))), (11, [], .v (.c (.p (.int .i64) (k + (1 : Int)))))], [(3, [], .box [.p (.int .i64) m.1, .p (.int .i64) m.2.1, .p (.sl (.sl (.int .i64))) m.2.2.1, .p (.int .i64) m.2.2.2.1, .p (.int .u32) m.2.2.2.2]), (78, [], .arr 3 (.int .i64) (x ++ ((w.take (ret21v.2.1).toNat).drop (ret21v.1).toNat)))]⟩ : St)) (by kernel_rfl) ⟨trivial, o1, trivial, trivial⟩ ?_
            refine awl_conv [.ren 78 20078, .ren 20078 65] (st' := (⟨123, [(1, [], .v (.c (.p (.sl (.int .i64)) w))), (2, [], .v (.c (.p (.int .u8) often))), (3, [], .v (.c (.ptr 3 0))), (7, [], .v (.c (.p (.int .i64) ret21v.1))), (8, [], .v (.c (.p (.int .i64) ret21v.2.1))), (10, [], .v (.c (.own 65))), (11, [], .v (.c (.p (.int .i64) (k + (1 : Int)))))], [(3, [], .box [.p (.int .i64) m.1, .p (.int .i64) m.2.1, .p (.sl (.sl (.int .i64))) m.2.2.1, .p (.int .i64) m.2.2.2.1, .p (.int .u32) m.2.2.2.2]), (65, [], .arr 3 (.int .i64) (x ++ ((w.take (ret21v.2.1).toNat).drop (ret21v.1).toNat)))]⟩ : St)) (by kernel_rfl) ?_
            refine awl_nil ?_
            exact thenQ_n ⟨((k + (1 : Int)), (x ++ ((w.take (ret21v.2.1).toNat).drop (ret21v.1).toNat))), rfl, h⟩
          · have h := h.2 hb
            refine aw_conv [.prune [1, 3, 8, 10] [3, 65]] (st' := (⟨123, [(1, [], .v (.c (.p (.sl (.int .i64)) w))), (3, [], .v (.c (.ptr 3 0))), (8, [], .v (.c (.p (.int .i64) ret21v.2.1))), (10, [], .v (.c (.own 65)))], [(3, [], .box [.p (.int .i64) m.1, .p (.int .i64) m.2.1, .p (.sl (.sl (.int .i64))) m.2.2.1, .p (.int .i64) m.2.2.2.1, .p (.int .u32) m.2.2.2.2]), (65, [], .arr 3 (.int .i64) x)]⟩ : St)) (by kernel_rfl) ?_
            refine aw_exit ?_
            refine thenQ_x ?_
            refine thenQ_x ?_
            refine blockQ_hit ?_
            exact rest1 x h

-- coppicer/tally.check
def VC56 (m : (Int × (Int × ((List (List Int)) × (Int × Int))))) (n : Int) (K : Int → Prop) : Prop :=
  VC40 m (fun (ret7v : Int) => (((!decide (ret7v = (0 : Int))) = true → K ret7v) ∧ ((!decide (ret7v = (0 : Int))) = false → ((((decide (n < (0 : Int))) || (decide ((12 : Int) < n))) = true → K (1 : Int)) ∧ (((decide (n < (0 : Int))) || (decide ((12 : Int) < n))) = false → K (0 : Int))))))

set_option maxHeartbeats 4000000 in
theorem link56 (m : (Int × (Int × ((List (List Int)) × (Int × Int))))) (n : Int) (K : Int → Prop) (h : VC56 m n K) : ACalls Try.prog 56 [toV1 (.pr (.int .i64) (.pr (.int .i64) (.pr (.sl (.sl (.int .i64))) (.pr (.int .i64) (.int .u32))))) m, toV1 (.int .i64) n] (fun res => ∃ y, res = (fun y => [toV1 (.int .i64) y]) y ∧ K y) := by
  refine acalls_of_aw [(.int .i64)] [.t 4] Try.func56 rfl rfl rfl ?_
  unfold VC56 at h
  refine aw_seq ?_
  refine aw_region ?_
  refine awl_runp 2 [1, 2] [2] (ob := (True ∧ True ∧ True)) (st' := (⟨17, [(1, [], .v (.c (.p (.int .i64) n))), (2, [], .v (.c (.ptr 2 0)))], [(2, [], .box [.p (.int .i64) m.1, .p (.int .i64) m.2.1, .p (.sl (.sl (.int .i64))) m.2.2.1, .p (.int .i64) m.2.2.2.1, .p (.int .u32) m.2.2.2.2])]⟩ : St)) (by kernel_rfl) ⟨trivial, trivial, trivial⟩ ?_
  refine awl_nil ?_
  refine thenQ_n ?_
  refine aw_seq ?_
  refine aw_seq ?_
  refine aw_region ?_
  refine awl_runp 1 [1, 6] [] (ob := (True ∧ True)) (st' := (⟨17, [(1, [], .v (.c (.p (.int .i64) n))), (6, [], .v (.agg [.p (.int .i64) m.1, .p (.int .i64) m.2.1, .p (.sl (.sl (.int .i64))) m.2.2.1, .p (.int .i64) m.2.2.2.1, .p (.int .u32) m.2.2.2.2]))], []⟩ : St)) (by kernel_rfl) ⟨trivial, trivial⟩ ?_
  refine awl_callk (p := []) (l := [toV1 (.pr (.int .i64) (.pr (.int .i64) (.pr (.sl (.sl (.int .i64))) (.pr (.int .i64) (.int .u32))))) m]) (cl := []) false [.d (.pr (.int .i64) (.pr (.int .i64) (.pr (.sl (.sl (.int .i64))) (.pr (.int .i64) (.int .u32)))))] [1, 7] [] (fun (ret7v : Int) => (((!decide (ret7v = (0 : Int))) = true → K ret7v) ∧ ((!decide (ret7v = (0 : Int))) = false → ((((decide (n < (0 : Int))) || (decide ((12 : Int) < n))) = true → K (1 : Int)) ∧ (((decide (n < (0 : Int))) || (decide ((12 : Int) < n))) = false → K (0 : Int)))))) (fun ret7v => [toV1 (.int .i64) ret7v]) (fun ret7v => (⟨17, [(1, [], .v (.c (.p (.int .i64) n))), (7, [], .v (.c (.p (.int .i64) ret7v)))], []⟩ : St)) (by kernel_rfl) rfl (by kernel_rfl) rfl (by kernel_rfl) Try.call40 (by kernel_rfl) (fun ret7v => by kernel_rfl) (fun e => by cases e) (fun hg => link40 m _ h) (fun hg => noF hg) (fun ret7v h => ?_)
  have h : (((!decide (ret7v = (0 : Int))) = true → K ret7v) ∧ ((!decide (ret7v = (0 : Int))) = false → ((((decide (n < (0 : Int))) || (decide ((12 : Int) < n))) = true → K (1 : Int)) ∧ (((decide (n < (0 : Int))) || (decide ((12 : Int) < n))) = false → K (0 : Int))))) := h
  refine awl_runp 1 [1, 5] [] (ob := (True ∧ True)) (st' := (⟨17, [(1, [], .v (.c (.p (.int .i64) n))), (5, [], .v (.c (.p (.int .i64) ret7v)))], []⟩ : St)) (by kernel_rfl) ⟨trivial, trivial⟩ ?_
  refine awl_nil ?_
  refine thenQ_n ?_
  refine aw_seq ?_
  refine aw_region ?_
  refine awl_runp 2 [1, 5, 9] [] (ob := (True ∧ True ∧ True)) (st' := (⟨17, [(1, [], .v (.c (.p (.int .i64) n))), (5, [], .v (.c (.p (.int .i64) ret7v))), (9, [], .v (.c (.p .bool (!decide (ret7v = (0 : Int))))))], []⟩ : St)) (by kernel_rfl) ⟨trivial, trivial, trivial⟩ ?_
  refine awl_nil ?_
  refine thenQ_n ?_
  refine aw_cond (b := (!decide (ret7v = (0 : Int)))) (by kernel_rfl) (fun hb => ?_) (fun hb => ?_)
  · have h := h.1 hb
    refine aw_seq ?_
    refine aw_region ?_
    refine awl_runp 2 [4] [] (ob := (True ∧ True ∧ True)) (st' := (⟨17, [(4, [], .v (.c (.p (.int .i64) ret7v)))], []⟩ : St)) (by kernel_rfl) ⟨trivial, trivial, trivial⟩ ?_
    refine awl_nil ?_
    refine thenQ_n ?_
    refine aw_ret ?_
    refine thenQ_r ?_
    exact retQ_r (σ := Int) (R := (fun y => [toV1 (.int .i64) y])) (ob := (True ∧ True)) ret7v (by kernel_rfl) ⟨trivial, trivial⟩ h
  · have h := h.2 hb
    refine aw_skip ?_
    refine thenQ_n ?_
    refine aw_seq ?_
    refine aw_seq ?_
    refine aw_region ?_
    refine awl_runp 6 [16] [] (ob := (True ∧ True ∧ True ∧ ((decide (n < (0 : Int))) = false → True) ∧ ((decide (n < (0 : Int))) = false → True) ∧ True ∧ True)) (st' := (⟨17, [(16, [], .v (.c (.p .bool ((decide (n < (0 : Int))) || (decide ((12 : Int) < n))))))], []⟩ : St)) (by kernel_rfl) ⟨trivial, trivial, trivial, (fun _ => trivial), (fun _ => trivial), trivial, trivial⟩ ?_
    refine awl_nil ?_
    refine thenQ_n ?_
    refine aw_cond (b := ((decide (n < (0 : Int))) || (decide ((12 : Int) < n)))) (by kernel_rfl) (fun hb => ?_) (fun hb => ?_)
    · have h := h.1 hb
      refine aw_seq ?_
      refine aw_region ?_
      refine awl_runp 1 [4] [] (ob := (True ∧ True)) (st' := (⟨17, [(4, [], .v (.c (.p (.int .i64) (1 : Int))))], []⟩ : St)) (by kernel_rfl) ⟨trivial, trivial⟩ ?_
      refine awl_nil ?_
      refine thenQ_n ?_
      refine aw_ret ?_
      refine thenQ_r ?_
      exact retQ_r (σ := Int) (R := (fun y => [toV1 (.int .i64) y])) (ob := (True ∧ True)) (1 : Int) (by kernel_rfl) ⟨trivial, trivial⟩ h
    · have h := h.2 hb
      refine aw_skip ?_
      refine thenQ_n ?_
      refine aw_seq ?_
      refine aw_region ?_
      refine awl_runp 1 [4] [] (ob := (True ∧ True)) (st' := (⟨17, [(4, [], .v (.c (.p (.int .i64) (0 : Int))))], []⟩ : St)) (by kernel_rfl) ⟨trivial, trivial⟩ ?_
      refine awl_nil ?_
      refine thenQ_n ?_
      refine aw_ret ?_
      exact retQ_r (σ := Int) (R := (fun y => [toV1 (.int .i64) y])) (ob := (True ∧ True)) (0 : Int) (by kernel_rfl) ⟨trivial, trivial⟩ h

-- coppicer/tally.counts
def VC57_k2 (K : (List (List Int)) → Prop) (out : (List (List Int))) : Prop :=
  K out

def VC57_k3 (v31 : Int) (out : (List (List Int))) (X1 : (List Int) × Int × (List (List Int)) → Prop) (next : (List Int)) : Prop :=
  (roomN (out.length + [next].length) ∧ (InR (v31 + (1 : Int)) ∧ X1 (next, (v31 + (1 : Int)), (out ++ [next]))))

def VC57_k4 (v38 : Int) (X2 : Int × (List Int) → Prop) (next2 : (List Int)) : Prop :=
  (InR (v38 + (1 : Int)) ∧ X2 ((v38 + (1 : Int)), next2))

def VC57_l3 (m : (Int × (Int × ((List (List Int)) × (Int × Int))))) (row2 : (List Int)) (v38 : Int) (X2 : Int × (List Int) → Prop) (v47 : Int) (next2 : (List Int)) (X3 : Int × (List Int) → Prop) : Prop :=
  (((decide (v47 < ((m.2.2.1.getD (v38).toNat ([] : (List Int))).length : Int))) = true → (inIdx v47 (m.2.2.1.getD (v38).toNat ([] : (List Int))).length ∧ (inIdx v38 next2.length ∧ inIdx ((m.2.2.1.getD (v38).toNat ([] : (List Int))).getD (v47).toNat (0 : Int)) row2.length ∧ (InR ((next2.getD ((v38).toNat) (0 : Int)) + (row2.getD (((m.2.2.1.getD (v38).toNat ([] : (List Int))).getD (v47).toNat (0 : Int))).toNat (0 : Int))) ∧ inIdx v38 next2.length ∧ (InR (v47 + (1 : Int)) ∧ X3 ((v47 + (1 : Int)), (next2.set ((v38).toNat) ((next2.getD ((v38).toNat) (0 : Int)) + (row2.getD (((m.2.2.1.getD (v38).toNat ([] : (List Int))).getD (v47).toNat (0 : Int))).toNat (0 : Int)))))))))) ∧ ((decide (v47 < ((m.2.2.1.getD (v38).toNat ([] : (List Int))).length : Int))) = false → VC57_k4 v38 X2 next2))

def VC57_l2 (m : (Int × (Int × ((List (List Int)) × (Int × Int))))) (row2 : (List Int)) (v31 : Int) (out : (List (List Int))) (X1 : (List Int) × Int × (List (List Int)) → Prop) (v38 : Int) (next : (List Int)) (X2 : Int × (List Int) → Prop) : Prop :=
  (((decide (v38 < ((List.replicate (m.1).toNat (0 : Int)).length : Int))) = true → (inIdx v38 m.2.2.1.length ∧ Loop (σ := Int × (List Int)) (fun s X => VC57_l3 m row2 v38 X2 s.1 s.2 X) ((0 : Int), next))) ∧ ((decide (v38 < ((List.replicate (m.1).toNat (0 : Int)).length : Int))) = false → VC57_k3 v31 out X1 next))

def VC57_l1 (m : (Int × (Int × ((List (List Int)) × (Int × Int))))) (n : Int) (K : (List (List Int)) → Prop) (row2 : (List Int)) (v31 : Int) (out : (List (List Int))) (X1 : (List Int) × Int × (List (List Int)) → Prop) : Prop :=
  (((decide (v31 < n)) = true → (room m.1 ∧ Loop (σ := Int × (List Int)) (fun s X => VC57_l2 m row2 v31 out X1 s.1 s.2 X) ((0 : Int), (List.replicate (m.1).toNat (0 : Int))))) ∧ ((decide (v31 < n)) = false → VC57_k2 K out))

def VC57_k1 (m : (Int × (Int × ((List (List Int)) × (Int × Int))))) (n : Int) (K : (List (List Int)) → Prop) (row : (List Int)) : Prop :=
  Loop (σ := (List Int) × Int × (List (List Int))) (fun s X => VC57_l1 m n K s.1 s.2.1 s.2.2 X) (row, (0 : Int), [row])

def VC57_k5 (v17 : Int) (X4 : Int × (List Int) → Prop) (row2 : (List Int)) : Prop :=
  (InR (v17 + (1 : Int)) ∧ X4 ((v17 + (1 : Int)), row2))

def VC57_l4 (m : (Int × (Int × ((List (List Int)) × (Int × Int))))) (n : Int) (K : (List (List Int)) → Prop) (v17 : Int) (row : (List Int)) (X4 : Int × (List Int) → Prop) : Prop :=
  (((decide (v17 < ((List.replicate (m.1).toNat (0 : Int)).length : Int))) = true → VC42 m.2.2.2.2 v17 (fun (ret23v : Bool) => ((ret23v = true → (inIdx v17 row.length ∧ VC57_k5 v17 X4 (row.set ((v17).toNat) (1 : Int)))) ∧ (ret23v = false → VC57_k5 v17 X4 row)))) ∧ ((decide (v17 < ((List.replicate (m.1).toNat (0 : Int)).length : Int))) = false → VC57_k1 m n K row))

def VC57 (m : (Int × (Int × ((List (List Int)) × (Int × Int))))) (n : Int) (K : (List (List Int)) → Prop) : Prop :=
  (room m.1 ∧ Loop (σ := Int × (List Int)) (fun s X => VC57_l4 m n K s.1 s.2 X) ((0 : Int), (List.replicate (m.1).toNat (0 : Int))))

set_option maxHeartbeats 4000000 in
theorem link57 (m : (Int × (Int × ((List (List Int)) × (Int × Int))))) (n : Int) (K : (List (List Int)) → Prop) (h : VC57 m n K) : ACalls Try.prog 57 [toV1 (.pr (.int .i64) (.pr (.int .i64) (.pr (.sl (.sl (.int .i64))) (.pr (.int .i64) (.int .u32))))) m, toV1 (.int .i64) n] (fun res => ∃ y, res = (fun y => [toV1 (.sl (.sl (.int .i64))) y]) y ∧ K y) := by
  refine acalls_of_aw [(.sl (.sl (.int .i64)))] [.t 4] Try.func57 rfl rfl rfl ?_
  unfold VC57 at h
  refine aw_seq ?_
  refine aw_region ?_
  refine awl_runp 2 [1, 2] [2] (ob := (True ∧ True ∧ True)) (st' := (⟨70, [(1, [], .v (.c (.p (.int .i64) n))), (2, [], .v (.c (.ptr 2 0)))], [(2, [], .box [.p (.int .i64) m.1, .p (.int .i64) m.2.1, .p (.sl (.sl (.int .i64))) m.2.2.1, .p (.int .i64) m.2.2.2.1, .p (.int .u32) m.2.2.2.2])]⟩ : St)) (by kernel_rfl) ⟨trivial, trivial, trivial⟩ ?_
  refine awl_nil ?_
  refine thenQ_n ?_
  refine aw_seq ?_
  refine aw_region ?_
  obtain ⟨o1, h⟩ := h
  refine awl_runp 4 [1, 2, 5] [2, 14] (ob := (True ∧ True ∧ room m.1 ∧ True ∧ True)) (st' := (⟨70, [(1, [], .v (.c (.p (.int .i64) n))), (2, [], .v (.c (.ptr 2 0))), (5, [], .v (.c (.own 14)))], [(2, [], .box [.p (.int .i64) m.1, .p (.int .i64) m.2.1, .p (.sl (.sl (.int .i64))) m.2.2.1, .p (.int .i64) m.2.2.2.1, .p (.int .u32) m.2.2.2.2]), (14, [], .arr 2 (.int .i64) (List.replicate (m.1).toNat (0 : Int)))]⟩ : St)) (by kernel_rfl) ⟨trivial, trivial, o1, trivial, trivial⟩ ?_
  refine awl_nil ?_
  refine thenQ_n ?_
  refine aw_seq ?_
  refine aw_seq ?_
  refine aw_region ?_
  refine awl_runp 3 [1, 2, 5, 16, 17] [2, 14] (ob := (True ∧ True ∧ True ∧ True)) (st' := (⟨70, [(1, [], .v (.c (.p (.int .i64) n))), (2, [], .v (.c (.ptr 2 0))), (5, [], .v (.c (.own 14))), (16, [], .v (.c (.p (.int .i64) ((List.replicate (m.1).toNat (0 : Int)).length : Int)))), (17, [], .v (.c (.p (.int .i64) (0 : Int))))], [(2, [], .box [.p (.int .i64) m.1, .p (.int .i64) m.2.1, .p (.sl (.sl (.int .i64))) m.2.2.1, .p (.int .i64) m.2.2.2.1, .p (.int .u32) m.2.2.2.2]), (14, [], .arr 2 (.int .i64) (List.replicate (m.1).toNat (0 : Int)))]⟩ : St)) (by kernel_rfl) ⟨trivial, trivial, trivial, trivial⟩ ?_
  refine awl_nil ?_
  refine thenQ_n ?_
  refine withJoin (σ := (List Int)) (fun s => (⟨70, [(1, [], .v (.c (.p (.int .i64) n))), (2, [], .v (.c (.ptr 2 0))), (5, [], .v (.c (.own 14)))], [(2, [], .box [.p (.int .i64) m.1, .p (.int .i64) m.2.1, .p (.sl (.sl (.int .i64))) m.2.2.1, .p (.int .i64) m.2.2.2.1, .p (.int .u32) m.2.2.2.2]), (14, [], .arr 2 (.int .i64) s)]⟩ : St)) (fun s => VC57_k1 m n K s) (fun row h => ?_) (fun rest4 => ?_)
  · have h : VC57_k1 m n K row := h
    unfold VC57_k1 at h
    refine thenQ_n ?_
    refine aw_seq ?_
    refine aw_region ?_
    refine awl_runp 1 [1, 2, 5, 28] [2, 14] (ob := (True ∧ True)) (st' := (⟨70, [(1, [], .v (.c (.p (.int .i64) n))), (2, [], .v (.c (.ptr 2 0))), (5, [], .v (.c (.own 14))), (28, [], .v (.c (.own 14)))], [(2, [], .box [.p (.int .i64) m.1, .p (.int .i64) m.2.1, .p (.sl (.sl (.int .i64))) m.2.2.1, .p (.int .i64) m.2.2.2.1, .p (.int .u32) m.2.2.2.2]), (14, [], .arr 2 (.int .i64) row)]⟩ : St)) (by kernel_rfl) ⟨trivial, trivial⟩ ?_
    refine awl_conv [.freeze 14] (st' := (⟨70, [(1, [], .v (.c (.p (.int .i64) n))), (2, [], .v (.c (.ptr 2 0))), (5, [], .v (.c (.p (.sl (.int .i64)) row))), (28, [], .v (.c (.p (.sl (.int .i64)) row)))], [(2, [], .box [.p (.int .i64) m.1, .p (.int .i64) m.2.1, .p (.sl (.sl (.int .i64))) m.2.2.1, .p (.int .i64) m.2.2.2.1, .p (.int .u32) m.2.2.2.2])]⟩ : St)) (by kernel_rfl) ?_
    refine awl_runp 2 [1, 2, 5, 7] [2, 29] (ob := (True ∧ True ∧ True)) (st' := (⟨70, [(1, [], .v (.c (.p (.int .i64) n))), (2, [], .v (.c (.ptr 2 0))), (5, [], .v (.c (.p (.sl (.int .i64)) row))), (7, [], .v (.c (.own 29)))], [(2, [], .box [.p (.int .i64) m.1, .p (.int .i64) m.2.1, .p (.sl (.sl (.int .i64))) m.2.2.1, .p (.int .i64) m.2.2.2.1, .p (.int .u32) m.2.2.2.2]), (29, [], .arr 91 (.sl (.int .i64)) [row])]⟩ : St)) (by kernel_rfl) ⟨trivial, trivial, trivial⟩ ?_
    refine awl_nil ?_
    refine thenQ_n ?_
    refine aw_seq ?_
    refine aw_seq ?_
    refine aw_region ?_
    refine awl_runp 2 [2, 5, 7, 30, 31] [2, 29] (ob := (True ∧ True ∧ True)) (st' := (⟨70, [(2, [], .v (.c (.ptr 2 0))), (5, [], .v (.c (.p (.sl (.int .i64)) row))), (7, [], .v (.c (.own 29))), (30, [], .v (.c (.p (.int .i64) n))), (31, [], .v (.c (.p (.int .i64) (0 : Int))))], [(2, [], .box [.p (.int .i64) m.1, .p (.int .i64) m.2.1, .p (.sl (.sl (.int .i64))) m.2.2.1, .p (.int .i64) m.2.2.2.1, .p (.int .u32) m.2.2.2.2]), (29, [], .arr 91 (.sl (.int .i64)) [row])]⟩ : St)) (by kernel_rfl) ⟨trivial, trivial, trivial⟩ ?_
    refine awl_nil ?_
    refine thenQ_n ?_
    refine withJoin (σ := (List (List Int))) (fun s => (⟨70, [(7, [], .v (.c (.own 29)))], [(29, [], .arr 91 (.sl (.int .i64)) s)]⟩ : St)) (fun s => VC57_k2 K s) (fun out h => ?_) (fun rest1 => ?_)
    · have h : VC57_k2 K out := h
      unfold VC57_k2 at h
      refine thenQ_n ?_
      refine aw_seq ?_
      refine aw_region ?_
      refine awl_runp 2 [4] [29] (ob := (True ∧ True ∧ True)) (st' := (⟨70, [(4, [], .v (.c (.own 29)))], [(29, [], .arr 91 (.sl (.int .i64)) out)]⟩ : St)) (by kernel_rfl) ⟨trivial, trivial, trivial⟩ ?_
      refine awl_nil ?_
      refine thenQ_n ?_
      refine aw_conv [.freeze 29] (st' := (⟨70, [(4, [], .v (.c (.p (.sl (.sl (.int .i64))) out)))], []⟩ : St)) (by kernel_rfl) ?_
      refine aw_ret ?_
      exact retQ_r (σ := (List (List Int))) (R := (fun y => [toV1 (.sl (.sl (.int .i64))) y])) (ob := (True ∧ True)) out (by kernel_rfl) ⟨trivial, trivial⟩ h
    · refine aw_block ?_
      refine aw_loop (σ := (List Int) × Int × (List (List Int))) (fun s => (⟨70, [(2, [], .v (.c (.ptr 2 0))), (5, [], .v (.c (.p (.sl (.int .i64)) s.1))), (7, [], .v (.c (.own 29))), (30, [], .v (.c (.p (.int .i64) n))), (31, [], .v (.c (.p (.int .i64) s.2.1)))], [(2, [], .box [.p (.int .i64) m.1, .p (.int .i64) m.2.1, .p (.sl (.sl (.int .i64))) m.2.2.1, .p (.int .i64) m.2.2.2.1, .p (.int .u32) m.2.2.2.2]), (29, [], .arr 91 (.sl (.int .i64)) s.2.2)]⟩ : St)) (fun s X => VC57_l1 m n K s.1 s.2.1 s.2.2 X) (s0 := (row, (0 : Int), [row])) (fun s X1 h => ?_) h
      obtain ⟨row2, v31, out⟩ := s
      have h : VC57_l1 m n K row2 v31 out X1 := h
      unfold VC57_l1 at h
      refine aw_seq ?_
      refine aw_region ?_
      refine awl_runp 1 [2, 5, 7, 30, 31, 32] [2, 29] (ob := (True ∧ True)) (st' := (⟨70, [(2, [], .v (.c (.ptr 2 0))), (5, [], .v (.c (.p (.sl (.int .i64)) row2))), (7, [], .v (.c (.own 29))), (30, [], .v (.c (.p (.int .i64) n))), (31, [], .v (.c (.p (.int .i64) v31))), (32, [], .v (.c (.p .bool (decide (v31 < n)))))], [(2, [], .box [.p (.int .i64) m.1, .p (.int .i64) m.2.1, .p (.sl (.sl (.int .i64))) m.2.2.1, .p (.int .i64) m.2.2.2.1, .p (.int .u32) m.2.2.2.2]), (29, [], .arr 91 (.sl (.int .i64)) out)]⟩ : St)) (by kernel_rfl) ⟨trivial, trivial⟩ ?_
      refine awl_nil ?_
      refine thenQ_n ?_
      refine aw_seq ?_
      refine aw_cond (b := (decide (v31 < n))) (by kernel_rfl) (fun hb => ?_) (fun hb => ?_)
      · have h := h.1 hb
        refine aw_skip ?_
        refine thenQ_n ?_
        refine aw_seq ?_
        refine aw_block ?_
        refine aw_seq ?_
        refine aw_region ?_
        obtain ⟨o1, h⟩ := h
        refine awl_runp 4 [2, 5, 7, 8, 30, 31] [2, 29, 35] (ob := (True ∧ True ∧ room m.1 ∧ True ∧ True)) (st' := (⟨70, [(2, [], .v (.c (.ptr 2 0))), (5, [], .v (.c (.p (.sl (.int .i64)) row2))), (7, [], .v (.c (.own 29))), (8, [], .v (.c (.own 35))), (30, [], .v (.c (.p (.int .i64) n))), (31, [], .v (.c (.p (.int .i64) v31)))], [(2, [], .box [.p (.int .i64) m.1, .p (.int .i64) m.2.1, .p (.sl (.sl (.int .i64))) m.2.2.1, .p (.int .i64) m.2.2.2.1, .p (.int .u32) m.2.2.2.2]), (29, [], .arr 91 (.sl (.int .i64)) out), (35, [], .arr 2 (.int .i64) (List.replicate (m.1).toNat (0 : Int)))]⟩ : St)) (by kernel_rfl) ⟨trivial, trivial, o1, trivial, trivial⟩ ?_
        refine awl_nil ?_
        refine thenQ_n ?_
        refine aw_seq ?_
        refine aw_seq ?_
        refine aw_region ?_
        refine awl_runp 3 [2, 5, 7, 8, 30, 31, 37, 38] [2, 29, 35] (ob := (True ∧ True ∧ True ∧ True)) (st' := (⟨70, [(2, [], .v (.c (.ptr 2 0))), (5, [], .v (.c (.p (.sl (.int .i64)) row2))), (7, [], .v (.c (.own 29))), (8, [], .v (.c (.own 35))), (30, [], .v (.c (.p (.int .i64) n))), (31, [], .v (.c (.p (.int .i64) v31))), (37, [], .v (.c (.p (.int .i64) ((List.replicate (m.1).toNat (0 : Int)).length : Int)))), (38, [], .v (.c (.p (.int .i64) (0 : Int))))], [(2, [], .box [.p (.int .i64) m.1, .p (.int .i64) m.2.1, .p (.sl (.sl (.int .i64))) m.2.2.1, .p (.int .i64) m.2.2.2.1, .p (.int .u32) m.2.2.2.2]), (29, [], .arr 91 (.sl (.int .i64)) out), (35, [], .arr 2 (.int .i64) (List.replicate (m.1).toNat (0 : Int)))]⟩ : St)) (by kernel_rfl) ⟨trivial, trivial, trivial, trivial⟩ ?_
        refine awl_nil ?_
        refine thenQ_n ?_
        refine withJoin (σ := (List Int)) (fun s => (⟨70, [(2, [], .v (.c (.ptr 2 0))), (7, [], .v (.c (.own 29))), (8, [], .v (.c (.own 35))), (30, [], .v (.c (.p (.int .i64) n))), (31, [], .v (.c (.p (.int .i64) v31)))], [(2, [], .box [.p (.int .i64) m.1, .p (.int .i64) m.2.1, .p (.sl (.sl (.int .i64))) m.2.2.1, .p (.int .i64) m.2.2.2.1, .p (.int .u32) m.2.2.2.2]), (29, [], .arr 91 (.sl (.int .i64)) out), (35, [], .arr 2 (.int .i64) s)]⟩ : St)) (fun s => VC57_k3 v31 out X1 s) (fun next h => ?_) (fun rest2 => ?_)
        · have h : VC57_k3 v31 out X1 next := h
          unfold VC57_k3 at h
          refine thenQ_n ?_
          refine aw_seq ?_
          refine aw_region ?_
          refine awl_runp 2 [2, 8, 30, 31, 63, 64] [2, 29, 35] (ob := (True ∧ True ∧ True)) (st' := (⟨70, [(2, [], .v (.c (.ptr 2 0))), (8, [], .v (.c (.own 35))), (30, [], .v (.c (.p (.int .i64) n))), (31, [], .v (.c (.p (.int .i64) v31))), (63, [], .v (.c (.own 29))), (64, [], .v (.c (.own 35)))], [(2, [], .box [.p (.int .i64) m.1, .p (.int .i64) m.2.1, .p (.sl (.sl (.int .i64))) m.2.2.1, .p (.int .i64) m.2.2.2.1, .p (.int .u32) m.2.2.2.2]), (29, [], .arr 91 (.sl (.int .i64)) out), (35, [], .arr 2 (.int .i64) next)]⟩ : St)) (by kernel_rfl) ⟨trivial, trivial, trivial⟩ ?_
          refine awl_conv [.freeze 35] (st' := (⟨70, [(2, [], .v (.c (.ptr 2 0))), (8, [], .v (.c (.p (.sl (.int .i64)) next))), (30, [], .v (.c (.p (.int .i64) n))), (31, [], .v (.c (.p (.int .i64) v31))), (63, [], .v (.c (.own 29))), (64, [], .v (.c (.p (.sl (.int .i64)) next)))], [(2, [], .box [.p (.int .i64) m.1, .p (.int .i64) m.2.1, .p (.sl (.sl (.int .i64))) m.2.2.1, .p (.int .i64) m.2.2.2.1, .p (.int .u32) m.2.2.2.2]), (29, [], .arr 91 (.sl (.int .i64)) out)]⟩ : St)) (by kernel_rfl) ?_
          obtain ⟨o1, h⟩ := h
          refine awl_runp 3 [2, 7, 8, 30, 31] [2, 66] (ob := (True ∧ roomN (out.length + [next].length) ∧ True ∧ True)) (st' := (⟨70, [(2, [], .v (.c (.ptr 2 0))), (7, [], .v (.c (.own 66))), (8, [], .v (.c (.p (.sl (.int .i64)) next))), (30, [], .v (.c (.p (.int .i64) n))), (31, [], .v (.c (.p (.int .i64) v31)))], [(2, [], .box [.p (.int .i64) m.1, .p (.int .i64) m.2.1, .p (.sl (.sl (.int .i64))) m.2.2.1, .p (.int .i64) m.2.2.2.1, .p (.int .u32) m.2.2.2.2]), (66, [], .arr 91 (.sl (.int .i64)) (out ++ [next]))]⟩ : St)) (by kernel_rfl) ⟨trivial, o1, trivial, trivial⟩ ?_
          refine awl_nil ?_
          refine thenQ_n ?_
          refine aw_region ?_
          refine awl_runp 2 [2, 5, 7, 30, 31] [2, 66] (ob := (True ∧ True ∧ True)) (st' := (⟨70, [(2, [], .v (.c (.ptr 2 0))), (5, [], .v (.c (.p (.sl (.int .i64)) next))), (7, [], .v (.c (.own 66))), (30, [], .v (.c (.p (.int .i64) n))), (31, [], .v (.c (.p (.int .i64) v31)))], [(2, [], .box [.p (.int .i64) m.1, .p (.int .i64) m.2.1, .p (.sl (.sl (.int .i64))) m.2.2.1, .p (.int .i64) m.2.2.2.1, .p (.int .u32) m.2.2.2.2]), (66, [], .arr 91 (.sl (.int .i64)) (out ++ [next]))]⟩ : St)) (by kernel_rfl) ⟨trivial, trivial, trivial⟩ ?_
          refine awl_nil ?_
          refine blockQ_n ?_
          refine thenQ_n ?_
          refine aw_region ?_
          obtain ⟨o1, h⟩ := h
          refine awl_runp 2 [2, 5, 7, 30, 31] [2, 66] (ob := (InR (v31 + (1 : Int)) ∧ True ∧ True)) (st' := (⟨70, [(2, [], .v (.c (.ptr 2 0))), (5, [], .v (.c (.p (.sl (.int .i64)) next))), (7, [], .v (.c (.own 66))), (30, [], .v (.c (.p (.int .i64) n))), (31, [], .v (.c (.p (.int .i64) (v31 + (1 : Int)))))], [(2, [], .box [.p (.int .i64) m.1, .p (.int .i64) m.2.1, .p (.sl (.sl (.int .i64))) m.2.2.1, .p (.int .i64) m.2.2.2.1, .p (.int .u32) m.2.2.2.2]), (66, [], .arr 91 (.sl (.int .i64)) (out ++ [next]))]⟩ : St)) (by kernel_rfl) ⟨o1, trivial, trivial⟩ ?_
          refine awl_conv [.ren 66 20066, .ren 20066 29] (st' := (⟨70, [(2, [], .v (.c (.ptr 2 0))), (5, [], .v (.c (.p (.sl (.int .i64)) next))), (7, [], .v (.c (.own 29))), (30, [], .v (.c (.p (.int .i64) n))), (31, [], .v (.c (.p (.int .i64) (v31 + (1 : Int)))))], [(2, [], .box [.p (.int .i64) m.1, .p (.int .i64) m.2.1, .p (.sl (.sl (.int .i64))) m.2.2.1, .p (.int .i64) m.2.2.2.1, .p (.int .u32) m.2.2.2.2]), (29, [], .arr 91 (.sl (.int .i64)) (out ++ [next]))]⟩ : St)) (by kernel_rfl) ?_
          refine awl_nil ?_
          exact thenQ_n ⟨(next, (v31 + (1 : Int)), (out ++ [next])), rfl, h⟩
        · refine aw_block ?_
          refine aw_loop (σ := Int × (List Int)) (fun s => (⟨70, [(2, [], .v (.c (.ptr 2 0))), (5, [], .v (.c (.p (.sl (.int .i64)) row2))), (7, [], .v (.c (.own 29))), (8, [], .v (.c (.own 35))), (30, [], .v (.c (.p (.int .i64) n))), (31, [], .v (.c (.p (.int .i64) v31))), (37, [], .v (.c (.p (.int .i64) ((List.replicate (m.1).toNat (0 : Int)).length : Int)))), (38, [], .v (.c (.p (.int .i64) s.1)))], [(2, [], .box [.p (.int .i64) m.1, .p (.int .i64) m.2.1, .p (.sl (.sl (.int .i64))) m.2.2.1, .p (.int .i64) m.2.2.2.1, .p (.int .u32) m.2.2.2.2]), (29, [], .arr 91 (.sl (.int .i64)) out), (35, [], .arr 2 (.int .i64) s.2)]⟩ : St)) (fun s X => VC57_l2 m row2 v31 out X1 s.1 s.2 X) (s0 := ((0 : Int), (List.replicate (m.1).toNat (0 : Int)))) (fun s X2 h => ?_) h
          obtain ⟨v38, next⟩ := s
          have h : VC57_l2 m row2 v31 out X1 v38 next X2 := h
          unfold VC57_l2 at h
          refine aw_seq ?_
          refine aw_region ?_
          refine awl_runp 1 [2, 5, 7, 8, 30, 31, 37, 38, 39] [2, 29, 35] (ob := (True ∧ True)) (st' := (⟨70, [(2, [], .v (.c (.ptr 2 0))), (5, [], .v (.c (.p (.sl (.int .i64)) row2))), (7, [], .v (.c (.own 29))), (8, [], .v (.c (.own 35))), (30, [], .v (.c (.p (.int .i64) n))), (31, [], .v (.c (.p (.int .i64) v31))), (37, [], .v (.c (.p (.int .i64) ((List.replicate (m.1).toNat (0 : Int)).length : Int)))), (38, [], .v (.c (.p (.int .i64) v38))), (39, [], .v (.c (.p .bool (decide (v38 < ((List.replicate (m.1).toNat (0 : Int)).length : Int))))))], [(2, [], .box [.p (.int .i64) m.1, .p (.int .i64) m.2.1, .p (.sl (.sl (.int .i64))) m.2.2.1, .p (.int .i64) m.2.2.2.1, .p (.int .u32) m.2.2.2.2]), (29, [], .arr 91 (.sl (.int .i64)) out), (35, [], .arr 2 (.int .i64) next)]⟩ : St)) (by kernel_rfl) ⟨trivial, trivial⟩ ?_
          refine awl_nil ?_
          refine thenQ_n ?_
          refine aw_seq ?_
          refine aw_cond (b := (decide (v38 < ((List.replicate (m.1).toNat (0 : Int)).length : Int)))) (by kernel_rfl) (fun hb => ?_) (fun hb => ?_)
          · have h := h.1 hb
            refine aw_skip ?_
            refine thenQ_n ?_
            refine aw_seq ?_
            refine aw_block ?_
            refine aw_seq ?_
            refine aw_region ?_
            refine awl_runp 2 [2, 5, 7, 8, 9, 30, 31, 37, 38] [2, 29, 35] (ob := (True ∧ True ∧ True)) (st' := (⟨70, [(2, [], .v (.c (.ptr 2 0))), (5, [], .v (.c (.p (.sl (.int .i64)) row2))), (7, [], .v (.c (.own 29))), (8, [], .v (.c (.own 35))), (9, [], .v (.c (.p (.int .i64) v38))), (30, [], .v (.c (.p (.int .i64) n))), (31, [], .v (.c (.p (.int .i64) v31))), (37, [], .v (.c (.p (.int .i64) ((List.replicate (m.1).toNat (0 : Int)).length : Int)))), (38, [], .v (.c (.p (.int .i64) v38)))], [(2, [], .box [.p (.int .i64) m.1, .p (.int .i64) m.2.1, .p (.sl (.sl (.int .i64))) m.2.2.1, .p (.int .i64) m.2.2.2.1, .p (.int .u32) m.2.2.2.2]), (29, [], .arr 91 (.sl (.int .i64)) out), (35, [], .arr 2 (.int .i64) next)]⟩ : St)) (by kernel_rfl) ⟨trivial, trivial, trivial⟩ ?_
            refine awl_nil ?_
            refine thenQ_n ?_
            refine aw_seq ?_
            refine aw_region ?_
            obtain ⟨o1, h⟩ := h
            refine awl_runp 7 [2, 5, 7, 8, 9, 30, 31, 37, 38, 45, 46, 47] [2, 29, 35] (ob := (True ∧ True ∧ True ∧ inIdx v38 m.2.2.1.length ∧ True ∧ True ∧ True ∧ True)) (st' := (⟨70, [(2, [], .v (.c (.ptr 2 0))), (5, [], .v (.c (.p (.sl (.int .i64)) row2))), (7, [], .v (.c (.own 29))), (8, [], .v (.c (.own 35))), (9, [], .v (.c (.p (.int .i64) v38))), (30, [], .v (.c (.p (.int .i64) n))), (31, [], .v (.c (.p (.int .i64) v31))), (37, [], .v (.c (.p (.int .i64) ((List.replicate (m.1).toNat (0 : Int)).length : Int)))), (38, [], .v (.c (.p (.int .i64) v38))), (45, [], .v (.c (.p (.sl (.int .i64)) (m.2.2.1.getD (v38).toNat ([] : (List Int)))))), (46, [], .v (.c (.p (.int .i64) ((m.2.2.1.getD (v38).toNat ([] : (List Int))).length : Int)))), (47, [], .v (.c (.p (.int .i64) (0 : Int))))], [(2, [], .box [.p (.int .i64) m.1, .p (.int .i64) m.2.1, .p (.sl (.sl (.int .i64))) m.2.2.1, .p (.int .i64) m.2.2.2.1, .p (.int .u32) m.2.2.2.2]), (29, [], .arr 91 (.sl (.int .i64)) out), (35, [], .arr 2 (.int .i64) next)]⟩ : St)) (by kernel_rfl) ⟨trivial, trivial, trivial, o1, trivial, trivial, trivial, trivial⟩ ?_
            refine awl_nil ?_
            refine thenQ_n ?_
            refine withJoin (σ := (List Int)) (fun s => (⟨70, [(2, [], .v (.c (.ptr 2 0))), (5, [], .v (.c (.p (.sl (.int .i64)) row2))), (7, [], .v (.c (.own 29))), (8, [], .v (.c (.own 35))), (30, [], .v (.c (.p (.int .i64) n))), (31, [], .v (.c (.p (.int .i64) v31))), (37, [], .v (.c (.p (.int .i64) ((List.replicate (m.1).toNat (0 : Int)).length : Int)))), (38, [], .v (.c (.p (.int .i64) v38)))], [(2, [], .box [.p (.int .i64) m.1, .p (.int .i64) m.2.1, .p (.sl (.sl (.int .i64))) m.2.2.1, .p (.int .i64) m.2.2.2.1, .p (.int .u32) m.2.2.2.2]), (29, [], .arr 91 (.sl (.int .i64)) out), (35, [], .arr 2 (.int .i64) s)]⟩ : St)) (fun s => VC57_k4 v38 X2 s) (fun next2 h => ?_) (fun rest3 => ?_)
            · have h : VC57_k4 v38 X2 next2 := h
              unfold VC57_k4 at h
              refine blockQ_n ?_
              refine thenQ_n ?_
              refine aw_region ?_
              obtain ⟨o1, h⟩ := h
              refine awl_runp 2 [2, 5, 7, 8, 30, 31, 37, 38] [2, 29, 35] (ob := (InR (v38 + (1 : Int)) ∧ True ∧ True)) (st' := (⟨70, [(2, [], .v (.c (.ptr 2 0))), (5, [], .v (.c (.p (.sl (.int .i64)) row2))), (7, [], .v (.c (.own 29))), (8, [], .v (.c (.own 35))), (30, [], .v (.c (.p (.int .i64) n))), (31, [], .v (.c (.p (.int .i64) v31))), (37, [], .v (.c (.p (.int .i64) ((List.replicate (m.1).toNat (0 : Int)).length : Int)))), (38, [], .v (.c (.p (.int .i64) (v38 + (1 : Int)))))], [(2, [], .box [.p (.int .i64) m.1, .p (.int .i64) m.2.1, .p (.sl (.sl (.int .i64))) m.2.2.1, .p (.int .i64) m.2.2.2.1, .p (.int .u32) m.2.2.2.2]), (29, [], .arr 91 (.sl (.int .i64)) out), (35, [], .arr 2 (.int .i64) next2)]⟩ : St)) (by kernel_rfl) ⟨o1, trivial, trivial⟩ ?_
              refine awl_nil ?_
              exact thenQ_n ⟨((v38 + (1 : Int)), next2), rfl, h⟩
            · refine aw_block ?_
              refine aw_loop (σ := Int × (List Int)) (fun s => (⟨70, [(2, [], .v (.c (.ptr 2 0))), (5, [], .v (.c (.p (.sl (.int .i64)) row2))), (7, [], .v (.c (.own 29))), (8, [], .v (.c (.own 35))), (9, [], .v (.c (.p (.int .i64) v38))), (30, [], .v (.c (.p (.int .i64) n))), (31, [], .v (.c (.p (.int .i64) v31))), (37, [], .v (.c (.p (.int .i64) ((List.replicate (m.1).toNat (0 : Int)).length : Int)))), (38, [], .v (.c (.p (.int .i64) v38))), (45, [], .v (.c (.p (.sl (.int .i64)) (m.2.2.1.getD (v38).toNat ([] : (List Int)))))), (46, [], .v (.c (.p (.int .i64) ((m.2.2.1.getD (v38).toNat ([] : (List Int))).length : Int)))), (47, [], .v (.c (.p (.int .i64) s.1)))], [(2, [], .box [.p (.int .i64) m.1, .p (.int .i64) m.2.1, .p (.sl (.sl (.int .i64))) m.2.2.1, .p (.int .i64) m.2.2.2.1, .p (.int .u32) m.2.2.2.2]), (29, [], .arr 91 (.sl (.int .i64)) out), (35, [], .arr 2 (.int .i64) s.2)]⟩ : St)) (fun s X => VC57_l3 m row2 v38 X2 s.1 s.2 X) (s0 := ((0 : Int), next)) (fun s X3 h => ?_) h
              obtain ⟨v47, next2⟩ := s
              have h : VC57_l3 m row2 v38 X2 v47 next2 X3 := h
              unfold VC57_l3 at h
              refine aw_seq ?_
              refine aw_region ?_
              refine awl_runp 1 [2, 5, 7, 8, 9, 30, 31, 37, 38, 45, 46, 47, 48] [2, 29, 35] (ob := (True ∧ True)) (st' := (⟨70, [(2, [], .v (.c (.ptr 2 0))), (5, [], .v (.c (.p (.sl (.int .i64)) row2))), (7, [], .v (.c (.own 29))), (8, [], .v (.c (.own 35))), (9, [], .v (.c (.p (.int .i64) v38))), (30, [], .v (.c (.p (.int .i64) n))), (31, [], .v (.c (.p (.int .i64) v31))), (37, [], .v (.c (.p (.int .i64) ((List.replicate (m.1).toNat (0 : Int)).length : Int)))), (38, [], .v (.c (.p (.int .i64) v38))), (45, [], .v (.c (.p (.sl (.int .i64)) (m.2.2.1.getD (v38).toNat ([] : (List Int)))))), (46, [], .v (.c (.p (.int .i64) ((m.2.2.1.getD (v38).toNat ([] : (List Int))).length : Int)))), (47, [], .v (.c (.p (.int .i64) v47))), (48, [], .v (.c (.p .bool (decide (v47 < ((m.2.2.1.getD (v38).toNat ([] : (List Int))).length : Int))))))], [(2, [], .box [.p (.int .i64) m.1, .p (.int .i64) m.2.1, .p (.sl (.sl (.int .i64))) m.2.2.1, .p (.int .i64) m.2.2.2.1, .p (.int .u32) m.2.2.2.2]), (29, [], .arr 91 (.sl (.int .i64)) out), (35, [], .arr 2 (.int .i64) next2)]⟩ : St)) (by kernel_rfl) ⟨trivial, trivial⟩ ?_
              refine awl_nil ?_
              refine thenQ_n ?_
              refine aw_seq ?_
              refine aw_cond (b := (decide (v47 < ((m.2.2.1.getD (v38).toNat ([] : (List Int))).length : Int)))) (by kernel_rfl) (fun hb => ?_) (fun hb => ?_)
              · have h := h.1 hb
                refine aw_skip ?_
                refine thenQ_n ?_
                refine aw_seq ?_
                refine aw_block ?_
                refine aw_seq ?_
                refine aw_region ?_
                obtain ⟨o1, h⟩ := h
                refine awl_runp 3 [2, 5, 7, 8, 9, 11, 30, 31, 37, 38, 45, 46, 47] [2, 29, 35] (ob := (inIdx v47 (m.2.2.1.getD (v38).toNat ([] : (List Int))).length ∧ True ∧ True ∧ True)) (st' := (⟨70, [(2, [], .v (.c (.ptr 2 0))), (5, [], .v (.c (.p (.sl (.int .i64)) row2))), (7, [], .v (.c (.own 29))), (8, [], .v (.c (.own 35))), (9, [], .v (.c (.p (.int .i64) v38))), (11, [], .v (.c (.p (.int .i64) ((m.2.2.1.getD (v38).toNat ([] : (List Int))).getD (v47).toNat (0 : Int))))), (30, [], .v (.c (.p (.int .i64) n))), (31, [], .v (.c (.p (.int .i64) v31))), (37, [], .v (.c (.p (.int .i64) ((List.replicate (m.1).toNat (0 : Int)).length : Int)))), (38, [], .v (.c (.p (.int .i64) v38))), (45, [], .v (.c (.p (.sl (.int .i64)) (m.2.2.1.getD (v38).toNat ([] : (List Int)))))), (46, [], .v (.c (.p (.int .i64) ((m.2.2.1.getD (v38).toNat ([] : (List Int))).length : Int)))), (47, [], .v (.c (.p (.int .i64) v47)))], [(2, [], .box [.p (.int .i64) m.1, .p (.int .i64) m.2.1, .p (.sl (.sl (.int .i64))) m.2.2.1, .p (.int .i64) m.2.2.2.1, .p (.int .u32) m.2.2.2.2]), (29, [], .arr 91 (.sl (.int .i64)) out), (35, [], .arr 2 (.int .i64) next2)]⟩ : St)) (by kernel_rfl) ⟨o1, trivial, trivial, trivial⟩ ?_
                refine awl_nil ?_
                refine thenQ_n ?_
                refine awd_begin [35] (by kernel_rfl) ?_
                obtain ⟨o1, o2, h⟩ := h
                refine awd_runp (by kernel_rfl) [0, 1, 2, 4, 5, 6, 7] [2, 5, 7, 8, 9, 30, 31, 37, 38, 45, 46, 47, 51, 52, 53, 58] [2, 29, 35] (ob := (True ∧ True ∧ inIdx v38 next2.length ∧ True ∧ True ∧ inIdx ((m.2.2.1.getD (v38).toNat ([] : (List Int))).getD (v47).toNat (0 : Int)) row2.length ∧ True ∧ True)) (done' := [7, 6, 5, 4, 2, 1, 0]) (st' := (⟨70, [(2, [], .v (.c (.ptr 2 0))), (5, [], .v (.c (.p (.sl (.int .i64)) row2))), (7, [], .v (.c (.own 29))), (8, [], .v (.c (.own 35))), (9, [], .v (.c (.p (.int .i64) v38))), (30, [], .v (.c (.p (.int .i64) n))), (31, [], .v (.c (.p (.int .i64) v31))), (37, [], .v (.c (.p (.int .i64) ((List.replicate (m.1).toNat (0 : Int)).length : Int)))), (38, [], .v (.c (.p (.int .i64) v38))), (45, [], .v (.c (.p (.sl (.int .i64)) (m.2.2.1.getD (v38).toNat ([] : (List Int)))))), (46, [], .v (.c (.p (.int .i64) ((m.2.2.1.getD (v38).toNat ([] : (List Int))).length : Int)))), (47, [], .v (.c (.p (.int .i64) v47))), (51, [], .v (.c (.own 35))), (52, [], .v (.c (.p (.int .i64) v38))), (53, [], .v (.c (.el 35 ((v38).toNat) 1))), (58, [], .v (.c (.p (.int .i64) (row2.getD (((m.2.2.1.getD (v38).toNat ([] : (List Int))).getD (v47).toNat (0 : Int))).toNat (0 : Int)))))], [(2, [], .box [.p (.int .i64) m.1, .p (.int .i64) m.2.1, .p (.sl (.sl (.int .i64))) m.2.2.1, .p (.int .i64) m.2.2.2.1, .p (.int .u32) m.2.2.2.2]), (29, [], .arr 91 (.sl (.int .i64)) out), (35, [], .arr 2 (.int .i64) next2)]⟩ : St)) (by kernel_rfl) ⟨trivial, trivial, o1, trivial, trivial, o2, trivial, trivial⟩ ?_
                refine awd_one (i := 3) (by kernel_rfl) ?_
                refine adop_stepp [2, 5, 7, 8, 9, 30, 31, 37, 38, 45, 46, 47, 51, 52, 54, 58] [2, 29, 35] (ob := True) (st' := (⟨70, [(2, [], .v (.c (.ptr 2 0))), (5, [], .v (.c (.p (.sl (.int .i64)) row2))), (7, [], .v (.c (.own 29))), (8, [], .v (.c (.own 35))), (9, [], .v (.c (.p (.int .i64) v38))), (30, [], .v (.c (.p (.int .i64) n))), (31, [], .v (.c (.p (.int .i64) v31))), (37, [], .v (.c (.p (.int .i64) ((List.replicate (m.1).toNat (0 : Int)).length : Int)))), (38, [], .v (.c (.p (.int .i64) v38))), (45, [], .v (.c (.p (.sl (.int .i64)) (m.2.2.1.getD (v38).toNat ([] : (List Int)))))), (46, [], .v (.c (.p (.int .i64) ((m.2.2.1.getD (v38).toNat ([] : (List Int))).length : Int)))), (47, [], .v (.c (.p (.int .i64) v47))), (51, [], .v (.c (.own 35))), (52, [], .v (.c (.p (.int .i64) v38))), (54, [], .v (.c (.p (.int .i64) (next2.getD ((v38).toNat) (0 : Int))))), (58, [], .v (.c (.p (.int .i64) (row2.getD (((m.2.2.1.getD (v38).toNat ([] : (List Int))).getD (v47).toNat (0 : Int))).toNat (0 : Int)))))], [(2, [], .box [.p (.int .i64) m.1, .p (.int .i64) m.2.1, .p (.sl (.sl (.int .i64))) m.2.2.1, .p (.int .i64) m.2.2.2.1, .p (.int .u32) m.2.2.2.2]), (29, [], .arr 91 (.sl (.int .i64)) out), (35, [], .arr 2 (.int .i64) next2)]⟩ : St)) rfl (by kernel_rfl) trivial ?_
                obtain ⟨o1, o2, h⟩ := h
                refine awd_runp (by kernel_rfl) [8, 9] [2, 5, 7, 8, 9, 30, 31, 37, 38, 45, 46, 47, 59, 60] [2, 29, 35] (ob := (InR ((next2.getD ((v38).toNat) (0 : Int)) + (row2.getD (((m.2.2.1.getD (v38).toNat ([] : (List Int))).getD (v47).toNat (0 : Int))).toNat (0 : Int))) ∧ inIdx v38 next2.length ∧ True)) (done' := [9, 8, 3, 7, 6, 5, 4, 2, 1, 0]) (st' := (⟨70, [(2, [], .v (.c (.ptr 2 0))), (5, [], .v (.c (.p (.sl (.int .i64)) row2))), (7, [], .v (.c (.own 29))), (8, [], .v (.c (.own 35))), (9, [], .v (.c (.p (.int .i64) v38))), (30, [], .v (.c (.p (.int .i64) n))), (31, [], .v (.c (.p (.int .i64) v31))), (37, [], .v (.c (.p (.int .i64) ((List.replicate (m.1).toNat (0 : Int)).length : Int)))), (38, [], .v (.c (.p (.int .i64) v38))), (45, [], .v (.c (.p (.sl (.int .i64)) (m.2.2.1.getD (v38).toNat ([] : (List Int)))))), (46, [], .v (.c (.p (.int .i64) ((m.2.2.1.getD (v38).toNat ([] : (List Int))).length : Int)))), (47, [], .v (.c (.p (.int .i64) v47))), (59, [], .v (.c (.p (.int .i64) ((next2.getD ((v38).toNat) (0 : Int)) + (row2.getD (((m.2.2.1.getD (v38).toNat ([] : (List Int))).getD (v47).toNat (0 : Int))).toNat (0 : Int)))))), (60, [], .v (.c (.el 35 ((v38).toNat) 1)))], [(2, [], .box [.p (.int .i64) m.1, .p (.int .i64) m.2.1, .p (.sl (.sl (.int .i64))) m.2.2.1, .p (.int .i64) m.2.2.2.1, .p (.int .u32) m.2.2.2.2]), (29, [], .arr 91 (.sl (.int .i64)) out), (35, [], .arr 2 (.int .i64) next2)]⟩ : St)) (by kernel_rfl) ⟨o1, o2, trivial⟩ ?_
                refine awd_one (i := 10) (by kernel_rfl) ?_
                refine adop_stepp [2, 5, 7, 8, 9, 30, 31, 37, 38, 45, 46, 47] [2, 29, 35] (ob := True) (st' := (⟨70, [(2, [], .v (.c (.ptr 2 0))), (5, [], .v (.c (.p (.sl (.int .i64)) row2))), (7, [], .v (.c (.own 29))), (8, [], .v (.c (.own 35))), (9, [], .v (.c (.p (.int .i64) v38))), (30, [], .v (.c (.p (.int .i64) n))), (31, [], .v (.c (.p (.int .i64) v31))), (37, [], .v (.c (.p (.int .i64) ((List.replicate (m.1).toNat (0 : Int)).length : Int)))), (38, [], .v (.c (.p (.int .i64) v38))), (45, [], .v (.c (.p (.sl (.int .i64)) (m.2.2.1.getD (v38).toNat ([] : (List Int)))))), (46, [], .v (.c (.p (.int .i64) ((m.2.2.1.getD (v38).toNat ([] : (List Int))).length : Int)))), (47, [], .v (.c (.p (.int .i64) v47)))], [(2, [], .box [.p (.int .i64) m.1, .p (.int .i64) m.2.1, .p (.sl (.sl (.int .i64))) m.2.2.1, .p (.int .i64) m.2.2.2.1, .p (.int .u32) m.2.2.2.2]), (29, [], .arr 91 (.sl (.int .i64)) out), (35, [], .arr 2 (.int .i64) (next2.set ((v38).toNat) ((next2.getD ((v38).toNat) (0 : Int)) + (row2.getD (((m.2.2.1.getD (v38).toNat ([] : (List Int))).getD (v47).toNat (0 : Int))).toNat (0 : Int)))))]⟩ : St)) rfl (by kernel_rfl) trivial ?_
                refine awd_done (by kernel_rfl) ?_
                refine blockQ_n ?_
                refine thenQ_n ?_
                refine aw_region ?_
                obtain ⟨o1, h⟩ := h
                refine awl_runp 2 [2, 5, 7, 8, 9, 30, 31, 37, 38, 45, 46, 47] [2, 29, 35] (ob := (InR (v47 + (1 : Int)) ∧ True ∧ True)) (st' := (⟨70, [(2, [], .v (.c (.ptr 2 0))), (5, [], .v (.c (.p (.sl (.int .i64)) row2))), (7, [], .v (.c (.own 29))), (8, [], .v (.c (.own 35))), (9, [], .v (.c (.p (.int .i64) v38))), (30, [], .v (.c (.p (.int .i64) n))), (31, [], .v (.c (.p (.int .i64) v31))), (37, [], .v (.c (.p (.int .i64) ((List.replicate (m.1).toNat (0 : Int)).length : Int)))), (38, [], .v (.c (.p (.int .i64) v38))), (45, [], .v (.c (.p (.sl (.int .i64)) (m.2.2.1.getD (v38).toNat ([] : (List Int)))))), (46, [], .v (.c (.p (.int .i64) ((m.2.2.1.getD (v38).toNat ([] : (List Int))).length : Int)))), (47, [], .v (.c (.p (.int .i64) (v47 + (1 : Int)))))], [(2, [], .box [.p (.int .i64) m.1, .p (.int .i64) m.2.1, .p (.sl (.sl (.int .i64))) m.2.2.1, .p (.int .i64) m.2.2.2.1, .p (.int .u32) m.2.2.2.2]), (29, [], .arr 91 (.sl (.int .i64)) out), (35, [], .arr 2 (.int .i64) (next2.set ((v38).toNat) ((next2.getD ((v38).toNat) (0 : Int)) + (row2.getD (((m.2.2.1.getD (v38).toNat ([] : (List Int))).getD (v47).toNat (0 : Int))).toNat (0 : Int)))))]⟩ : St)) (by kernel_rfl) ⟨o1, trivial, trivial⟩ ?_
                refine awl_nil ?_
                exact thenQ_n ⟨((v47 + (1 : Int)), (next2.set ((v38).toNat) ((next2.getD ((v38).toNat) (0 : Int)) + (row2.getD (((m.2.2.1.getD (v38).toNat ([] : (List Int))).getD (v47).toNat (0 : Int))).toNat (0 : Int))))), rfl, h⟩
              · have h := h.2 hb
                refine aw_conv [.prune [2, 5, 7, 8, 30, 31, 37, 38] [2, 29, 35]] (st' := (⟨70, [(2, [], .v (.c (.ptr 2 0))), (5, [], .v (.c (.p (.sl (.int .i64)) row2))), (7, [], .v (.c (.own 29))), (8, [], .v (.c (.own 35))), (30, [], .v (.c (.p (.int .i64) n))), (31, [], .v (.c (.p (.int .i64) v31))), (37, [], .v (.c (.p (.int .i64) ((List.replicate (m.1).toNat (0 : Int)).length : Int)))), (38, [], .v (.c (.p (.int .i64) v38)))], [(2, [], .box [.p (.int .i64) m.1, .p (.int .i64) m.2.1, .p (.sl (.sl (.int .i64))) m.2.2.1, .p (.int .i64) m.2.2.2.1, .p (.int .u32) m.2.2.2.2]), (29, [], .arr 91 (.sl (.int .i64)) out), (35, [], .arr 2 (.int .i64) next2)]⟩ : St)) (by kernel_rfl) ?_
                refine aw_exit ?_
                refine thenQ_x ?_
                refine thenQ_x ?_
                refine blockQ_hit ?_
                exact rest3 next2 h
          · have h := h.2 hb
            refine aw_conv [.prune [2, 7, 8, 30, 31] [2, 29, 35]] (st' := (⟨70, [(2, [], .v (.c (.ptr 2 0))), (7, [], .v (.c (.own 29))), (8, [], .v (.c (.own 35))), (30, [], .v (.c (.p (.int .i64) n))), (31, [], .v (.c (.p (.int .i64) v31)))], [(2, [], .box [.p (.int .i64) m.1, .p (.int .i64) m.2.1, .p (.sl (.sl (.int .i64))) m.2.2.1, .p (.int .i64) m.2.2.2.1, .p (.int .u32) m.2.2.2.2]), (29, [], .arr 91 (.sl (.int .i64)) out), (35, [], .arr 2 (.int .i64) next)]⟩ : St)) (by kernel_rfl) ?_
            refine aw_exit ?_
            refine thenQ_x ?_
            refine thenQ_x ?_
            refine blockQ_hit ?_
            exact rest2 next h
      · have h := h.2 hb
        refine aw_conv [.prune [7] [29]] (st' := (⟨70, [(7, [], .v (.c (.own 29)))], [(29, [], .arr 91 (.sl (.int .i64)) out)]⟩ : St)) (by kernel_rfl) ?_
        refine aw_exit ?_
        refine thenQ_x ?_
        refine thenQ_x ?_
        refine blockQ_hit ?_
        exact rest1 out h
  · refine aw_block ?_
    refine aw_loop (σ := Int × (List Int)) (fun s => (⟨70, [(1, [], .v (.c (.p (.int .i64) n))), (2, [], .v (.c (.ptr 2 0))), (5, [], .v (.c (.own 14))), (16, [], .v (.c (.p (.int .i64) ((List.replicate (m.1).toNat (0 : Int)).length : Int)))), (17, [], .v (.c (.p (.int .i64) s.1)))], [(2, [], .box [.p (.int .i64) m.1, .p (.int .i64) m.2.1, .p (.sl (.sl (.int .i64))) m.2.2.1, .p (.int .i64) m.2.2.2.1, .p (.int .u32) m.2.2.2.2]), (14, [], .arr 2 (.int .i64) s.2)]⟩ : St)) (fun s X => VC57_l4 m n K s.1 s.2 X) (s0 := ((0 : Int), (List.replicate (m.1).toNat (0 : Int)))) (fun s X4 h => ?_) h
    obtain ⟨v17, row⟩ := s
    have h : VC57_l4 m n K v17 row X4 := h
    unfold VC57_l4 at h
    refine aw_seq ?_
    refine aw_region ?_
    refine awl_runp 1 [1, 2, 5, 16, 17, 18] [2, 14] (ob := (True ∧ True)) (st' := (⟨70, [(1, [], .v (.c (.p (.int .i64) n))), (2, [], .v (.c (.ptr 2 0))), (5, [], .v (.c (.own 14))), (16, [], .v (.c (.p (.int .i64) ((List.replicate (m.1).toNat (0 : Int)).length : Int)))), (17, [], .v (.c (.p (.int .i64) v17))), (18, [], .v (.c (.p .bool (decide (v17 < ((List.replicate (m.1).toNat (0 : Int)).length : Int))))))], [(2, [], .box [.p (.int .i64) m.1, .p (.int .i64) m.2.1, .p (.sl (.sl (.int .i64))) m.2.2.1, .p (.int .i64) m.2.2.2.1, .p (.int .u32) m.2.2.2.2]), (14, [], .arr 2 (.int .i64) row)]⟩ : St)) (by kernel_rfl) ⟨trivial, trivial⟩ ?_
    refine awl_nil ?_
    refine thenQ_n ?_
    refine aw_seq ?_
    refine aw_cond (b := (decide (v17 < ((List.replicate (m.1).toNat (0 : Int)).length : Int)))) (by kernel_rfl) (fun hb => ?_) (fun hb => ?_)
    · have h := h.1 hb
      refine aw_skip ?_
      refine thenQ_n ?_
      refine aw_seq ?_
      refine aw_block ?_
      refine aw_seq ?_
      refine aw_region ?_
      refine awl_runp 2 [1, 2, 5, 6, 16, 17] [2, 14] (ob := (True ∧ True ∧ True)) (st' := (⟨70, [(1, [], .v (.c (.p (.int .i64) n))), (2, [], .v (.c (.ptr 2 0))), (5, [], .v (.c (.own 14))), (6, [], .v (.c (.p (.int .i64) v17))), (16, [], .v (.c (.p (.int .i64) ((List.replicate (m.1).toNat (0 : Int)).length : Int)))), (17, [], .v (.c (.p (.int .i64) v17)))], [(2, [], .box [.p (.int .i64) m.1, .p (.int .i64) m.2.1, .p (.sl (.sl (.int .i64))) m.2.2.1, .p (.int .i64) m.2.2.2.1, .p (.int .u32) m.2.2.2.2]), (14, [], .arr 2 (.int .i64) row)]⟩ : St)) (by kernel_rfl) ⟨trivial, trivial, trivial⟩ ?_
      refine awl_nil ?_
      refine thenQ_n ?_
      refine aw_seq ?_
      refine aw_region ?_
      refine awl_runp 3 [1, 2, 5, 6, 16, 17, 21, 22] [2, 14] (ob := (True ∧ True ∧ True ∧ True)) (st' := (⟨70, [(1, [], .v (.c (.p (.int .i64) n))), (2, [], .v (.c (.ptr 2 0))), (5, [], .v (.c (.own 14))), (6, [], .v (.c (.p (.int .i64) v17))), (16, [], .v (.c (.p (.int .i64) ((List.replicate (m.1).toNat (0 : Int)).length : Int)))), (17, [], .v (.c (.p (.int .i64) v17))), (21, [], .v (.c (.p (.int .u32) m.2.2.2.2))), (22, [], .v (.c (.p (.int .i64) v17)))], [(2, [], .box [.p (.int .i64) m.1, .p (.int .i64) m.2.1, .p (.sl (.sl (.int .i64))) m.2.2.1, .p (.int .i64) m.2.2.2.1, .p (.int .u32) m.2.2.2.2]), (14, [], .arr 2 (.int .i64) row)]⟩ : St)) (by kernel_rfl) ⟨trivial, trivial, trivial, trivial⟩ ?_
      refine awl_callk (p := []) (l := [toV1 (.int .u32) m.2.2.2.2, toV1 (.int .i64) v17]) (cl := []) false [.d (.int .u32), .d (.int .i64)] [1, 2, 5, 6, 16, 17, 23] [2, 14] (fun (ret23v : Bool) => ((ret23v = true → (inIdx v17 row.length ∧ VC57_k5 v17 X4 (row.set ((v17).toNat) (1 : Int)))) ∧ (ret23v = false → VC57_k5 v17 X4 row))) (fun ret23v => [toV1 .bool ret23v]) (fun ret23v => (⟨70, [(1, [], .v (.c (.p (.int .i64) n))), (2, [], .v (.c (.ptr 2 0))), (5, [], .v (.c (.own 14))), (6, [], .v (.c (.p (.int .i64) v17))), (16, [], .v (.c (.p (.int .i64) ((List.replicate (m.1).toNat (0 : Int)).length : Int)))), (17, [], .v (.c (.p (.int .i64) v17))), (23, [], .v (.c (.p .bool ret23v)))], [(2, [], .box [.p (.int .i64) m.1, .p (.int .i64) m.2.1, .p (.sl (.sl (.int .i64))) m.2.2.1, .p (.int .i64) m.2.2.2.1, .p (.int .u32) m.2.2.2.2]), (14, [], .arr 2 (.int .i64) row)]⟩ : St)) (by kernel_rfl) rfl (by kernel_rfl) rfl (by kernel_rfl) Try.call42 (by kernel_rfl) (fun ret23v => by kernel_rfl) (fun e => by cases e) (fun hg => link42 m.2.2.2.2 v17 _ h) (fun hg => noF hg) (fun ret23v h => ?_)
      have h : ((ret23v = true → (inIdx v17 row.length ∧ VC57_k5 v17 X4 (row.set ((v17).toNat) (1 : Int)))) ∧ (ret23v = false → VC57_k5 v17 X4 row)) := h
      refine awl_nil ?_
      refine thenQ_n ?_
      refine withJoin (σ := (List Int)) (fun s => (⟨70, [(1, [], .v (.c (.p (.int .i64) n))), (2, [], .v (.c (.ptr 2 0))), (5, [], .v (.c (.own 14))), (16, [], .v (.c (.p (.int .i64) ((List.replicate (m.1).toNat (0 : Int)).length : Int)))), (17, [], .v (.c (.p (.int .i64) v17)))], [(2, [], .box [.p (.int .i64) m.1, .p (.int .i64) m.2.1, .p (.sl (.sl (.int .i64))) m.2.2.1, .p (.int .i64) m.2.2.2.1, .p (.int .u32) m.2.2.2.2]), (14, [], .arr 2 (.int .i64) s)]⟩ : St)) (fun s => VC57_k5 v17 X4 s) (fun row2 h => ?_) (fun rest5 => ?_)
      · have h : VC57_k5 v17 X4 row2 := h
        unfold VC57_k5 at h
        refine blockQ_n ?_
        refine thenQ_n ?_
        refine aw_region ?_
        obtain ⟨o1, h⟩ := h
        refine awl_runp 2 [1, 2, 5, 16, 17] [2, 14] (ob := (InR (v17 + (1 : Int)) ∧ True ∧ True)) (st' := (⟨70, [(1, [], .v (.c (.p (.int .i64) n))), (2, [], .v (.c (.ptr 2 0))), (5, [], .v (.c (.own 14))), (16, [], .v (.c (.p (.int .i64) ((List.replicate (m.1).toNat (0 : Int)).length : Int)))), (17, [], .v (.c (.p (.int .i64) (v17 + (1 : Int)))))], [(2, [], .box [.p (.int .i64) m.1, .p (.int .i64) m.2.1, .p (.sl (.sl (.int .i64))) m.2.2.1, .p (.int .i64) m.2.2.2.1, .p (.int .u32) m.2.2.2.2]), (14, [], .arr 2 (.int .i64) row2)]⟩ : St)) (by kernel_rfl) ⟨o1, trivial, trivial⟩ ?_
        refine awl_nil ?_
        exact thenQ_n ⟨((v17 + (1 : Int)), row2), rfl, h⟩
      · refine aw_cond (b := ret23v) (by kernel_rfl) (fun hb => ?_) (fun hb => ?_)
        · have h := h.1 hb
          refine aw_region ?_
          obtain ⟨o1, h⟩ := h
          refine awl_runp 4 [1, 2, 5, 16, 17] [2, 14] (ob := (True ∧ True ∧ inIdx v17 row.length ∧ True ∧ True)) (st' := (⟨70, [(1, [], .v (.c (.p (.int .i64) n))), (2, [], .v (.c (.ptr 2 0))), (5, [], .v (.c (.own 14))), (16, [], .v (.c (.p (.int .i64) ((List.replicate (m.1).toNat (0 : Int)).length : Int)))), (17, [], .v (.c (.p (.int .i64) v17)))], [(2, [], .box [.p (.int .i64) m.1, .p (.int .i64) m.2.1, .p (.sl (.sl (.int .i64))) m.2.2.1, .p (.int .i64) m.2.2.2.1, .p (.int .u32) m.2.2.2.2]), (14, [], .arr 2 (.int .i64) (row.set ((v17).toNat) (1 : Int)))]⟩ : St)) (by kernel_rfl) ⟨trivial, trivial, o1, trivial, trivial⟩ ?_
          refine awl_nil ?_
          exact rest5 (row.set ((v17).toNat) (1 : Int)) h
        · have h := h.2 hb
          refine aw_conv [.prune [1, 2, 5, 16, 17] [2, 14]] (st' := (⟨70, [(1, [], .v (.c (.p (.int .i64) n))), (2, [], .v (.c (.ptr 2 0))), (5, [], .v (.c (.own 14))), (16, [], .v (.c (.p (.int .i64) ((List.replicate (m.1).toNat (0 : Int)).length : Int)))), (17, [], .v (.c (.p (.int .i64) v17)))], [(2, [], .box [.p (.int .i64) m.1, .p (.int .i64) m.2.1, .p (.sl (.sl (.int .i64))) m.2.2.1, .p (.int .i64) m.2.2.2.1, .p (.int .u32) m.2.2.2.2]), (14, [], .arr 2 (.int .i64) row)]⟩ : St)) (by kernel_rfl) ?_
          refine aw_skip ?_
          exact rest5 row h
    · have h := h.2 hb
      refine aw_conv [.prune [1, 2, 5] [2, 14]] (st' := (⟨70, [(1, [], .v (.c (.p (.int .i64) n))), (2, [], .v (.c (.ptr 2 0))), (5, [], .v (.c (.own 14)))], [(2, [], .box [.p (.int .i64) m.1, .p (.int .i64) m.2.1, .p (.sl (.sl (.int .i64))) m.2.2.1, .p (.int .i64) m.2.2.2.1, .p (.int .u32) m.2.2.2.2]), (14, [], .arr 2 (.int .i64) row)]⟩ : St)) (by kernel_rfl) ?_
      refine aw_exit ?_
      refine thenQ_x ?_
      refine thenQ_x ?_
      refine blockQ_hit ?_
      exact rest4 row h

-- coppicer/tally.Many
def VC33 (m : (Int × (Int × ((List (List Int)) × (Int × Int))))) (n : Int) (K : Int × Int → Prop) : Prop :=
  VC56 m n (fun (ret9v : Int) => (((!decide (ret9v = (0 : Int))) = true → K ((0 : Int), ret9v)) ∧ ((!decide (ret9v = (0 : Int))) = false → VC57 m n (fun (ret15v : (List (List Int))) => (inIdx n ret15v.length ∧ inIdx m.2.2.2.1 (ret15v.getD (n).toNat ([] : (List Int))).length ∧ K (((ret15v.getD (n).toNat ([] : (List Int))).getD (m.2.2.2.1).toNat (0 : Int)), (0 : Int)))))))

set_option maxHeartbeats 4000000 in
theorem link33 (m : (Int × (Int × ((List (List Int)) × (Int × Int))))) (n : Int) (K : Int × Int → Prop) (h : VC33 m n K) : ACalls Try.prog 33 [toV1 (.pr (.int .i64) (.pr (.int .i64) (.pr (.sl (.sl (.int .i64))) (.pr (.int .i64) (.int .u32))))) m, toV1 (.int .i64) n] (fun res => ∃ y, res = (fun y => [toV1 (.int .i64) y.1, toV1 (.int .i64) y.2]) y ∧ K y) := by
  refine acalls_of_aw [(.int .i64), (.int .i64)] [.t 4, .t 5] Try.func33 rfl rfl rfl ?_
  unfold VC33 at h
  refine aw_seq ?_
  refine aw_region ?_
  refine awl_runp 3 [1, 2] [2] (ob := (True ∧ True ∧ True ∧ True)) (st' := (⟨23, [(1, [], .v (.c (.p (.int .i64) n))), (2, [], .v (.c (.ptr 2 0)))], [(2, [], .box [.p (.int .i64) m.1, .p (.int .i64) m.2.1, .p (.sl (.sl (.int .i64))) m.2.2.1, .p (.int .i64) m.2.2.2.1, .p (.int .u32) m.2.2.2.2])]⟩ : St)) (by kernel_rfl) ⟨trivial, trivial, trivial, trivial⟩ ?_
  refine awl_nil ?_
  refine thenQ_n ?_
  refine aw_seq ?_
  refine aw_seq ?_
  refine aw_region ?_
  refine awl_runp 2 [1, 2, 7, 8] [2] (ob := (True ∧ True ∧ True)) (st' := (⟨23, [(1, [], .v (.c (.p (.int .i64) n))), (2, [], .v (.c (.ptr 2 0))), (7, [], .v (.agg [.p (.int .i64) m.1, .p (.int .i64) m.2.1, .p (.sl (.sl (.int .i64))) m.2.2.1, .p (.int .i64) m.2.2.2.1, .p (.int .u32) m.2.2.2.2])), (8, [], .v (.c (.p (.int .i64) n)))], [(2, [], .box [.p (.int .i64) m.1, .p (.int .i64) m.2.1, .p (.sl (.sl (.int .i64))) m.2.2.1, .p (.int .i64) m.2.2.2.1, .p (.int .u32) m.2.2.2.2])]⟩ : St)) (by kernel_rfl) ⟨trivial, trivial, trivial⟩ ?_
  refine awl_callk (p := []) (l := [toV1 (.pr (.int .i64) (.pr (.int .i64) (.pr (.sl (.sl (.int .i64))) (.pr (.int .i64) (.int .u32))))) m, toV1 (.int .i64) n]) (cl := []) false [.d (.pr (.int .i64) (.pr (.int .i64) (.pr (.sl (.sl (.int .i64))) (.pr (.int .i64) (.int .u32))))), .d (.int .i64)] [1, 2, 9] [2] (fun (ret9v : Int) => (((!decide (ret9v = (0 : Int))) = true → K ((0 : Int), ret9v)) ∧ ((!decide (ret9v = (0 : Int))) = false → VC57 m n (fun (ret15v : (List (List Int))) => (inIdx n ret15v.length ∧ inIdx m.2.2.2.1 (ret15v.getD (n).toNat ([] : (List Int))).length ∧ K (((ret15v.getD (n).toNat ([] : (List Int))).getD (m.2.2.2.1).toNat (0 : Int)), (0 : Int))))))) (fun ret9v => [toV1 (.int .i64) ret9v]) (fun ret9v => (⟨23, [(1, [], .v (.c (.p (.int .i64) n))), (2, [], .v (.c (.ptr 2 0))), (9, [], .v (.c (.p (.int .i64) ret9v)))], [(2, [], .box [.p (.int .i64) m.1, .p (.int .i64) m.2.1, .p (.sl (.sl (.int .i64))) m.2.2.1, .p (.int .i64) m.2.2.2.1, .p (.int .u32) m.2.2.2.2])]⟩ : St)) (by kernel_rfl) rfl (by kernel_rfl) rfl (by kernel_rfl) Try.call56 (by kernel_rfl) (fun ret9v => by kernel_rfl) (fun e => by cases e) (fun hg => link56 m n _ h) (fun hg => noF hg) (fun ret9v h => ?_)
  have h : (((!decide (ret9v = (0 : Int))) = true → K ((0 : Int), ret9v)) ∧ ((!decide (ret9v = (0 : Int))) = false → VC57 m n (fun (ret15v : (List (List Int))) => (inIdx n ret15v.length ∧ inIdx m.2.2.2.1 (ret15v.getD (n).toNat ([] : (List Int))).length ∧ K (((ret15v.getD (n).toNat ([] : (List Int))).getD (m.2.2.2.1).toNat (0 : Int)), (0 : Int)))))) := h
  refine awl_runp 1 [1, 2, 6] [2] (ob := (True ∧ True)) (st' := (⟨23, [(1, [], .v (.c (.p (.int .i64) n))), (2, [], .v (.c (.ptr 2 0))), (6, [], .v (.c (.p (.int .i64) ret9v)))], [(2, [], .box [.p (.int .i64) m.1, .p (.int .i64) m.2.1, .p (.sl (.sl (.int .i64))) m.2.2.1, .p (.int .i64) m.2.2.2.1, .p (.int .u32) m.2.2.2.2])]⟩ : St)) (by kernel_rfl) ⟨trivial, trivial⟩ ?_
  refine awl_nil ?_
  refine thenQ_n ?_
  refine aw_seq ?_
  refine aw_region ?_
  refine awl_runp 2 [1, 2, 6, 11] [2] (ob := (True ∧ True ∧ True)) (st' := (⟨23, [(1, [], .v (.c (.p (.int .i64) n))), (2, [], .v (.c (.ptr 2 0))), (6, [], .v (.c (.p (.int .i64) ret9v))), (11, [], .v (.c (.p .bool (!decide (ret9v = (0 : Int))))))], [(2, [], .box [.p (.int .i64) m.1, .p (.int .i64) m.2.1, .p (.sl (.sl (.int .i64))) m.2.2.1, .p (.int .i64) m.2.2.2.1, .p (.int .u32) m.2.2.2.2])]⟩ : St)) (by kernel_rfl) ⟨trivial, trivial, trivial⟩ ?_
  refine awl_nil ?_
  refine thenQ_n ?_
  refine aw_cond (b := (!decide (ret9v = (0 : Int)))) (by kernel_rfl) (fun hb => ?_) (fun hb => ?_)
  · have h := h.1 hb
    refine aw_seq ?_
    refine aw_region ?_
    refine awl_runp 3 [4, 5] [] (ob := (True ∧ True ∧ True ∧ True)) (st' := (⟨23, [(4, [], .v (.c (.p (.int .i64) (0 : Int)))), (5, [], .v (.c (.p (.int .i64) ret9v)))], []⟩ : St)) (by kernel_rfl) ⟨trivial, trivial, trivial, trivial⟩ ?_
    refine awl_nil ?_
    refine thenQ_n ?_
    refine aw_ret ?_
    refine thenQ_r ?_
    exact retQ_r (σ := Int × Int) (R := (fun y => [toV1 (.int .i64) y.1, toV1 (.int .i64) y.2])) (ob := (True ∧ True ∧ True)) ((0 : Int), ret9v) (by kernel_rfl) ⟨trivial, trivial, trivial⟩ h
  · have h := h.2 hb
    refine aw_skip ?_
    refine thenQ_n ?_
    refine aw_seq ?_
    refine awd_begin [] (by kernel_rfl) ?_
    refine awd_runp (by kernel_rfl) [0, 1, 3, 6, 7] [13, 14, 16, 20] [] (ob := (True ∧ True ∧ True ∧ True ∧ True ∧ True)) (done' := [7, 6, 3, 1, 0]) (st' := (⟨23, [(13, [], .v (.agg [.p (.int .i64) m.1, .p (.int .i64) m.2.1, .p (.sl (.sl (.int .i64))) m.2.2.1, .p (.int .i64) m.2.2.2.1, .p (.int .u32) m.2.2.2.2])), (14, [], .v (.c (.p (.int .i64) n))), (16, [], .v (.c (.p (.int .i64) n))), (20, [], .v (.c (.p (.int .i64) m.2.2.2.1)))], []⟩ : St)) (by kernel_rfl) ⟨trivial, trivial, trivial, trivial, trivial, trivial⟩ ?_
    refine awd_one (i := 2) (by kernel_rfl) ?_
    refine adop_callk (p := []) (l := [toV1 (.pr (.int .i64) (.pr (.int .i64) (.pr (.sl (.sl (.int .i64))) (.pr (.int .i64) (.int .u32))))) m, toV1 (.int .i64) n]) (cl := []) false [.d (.pr (.int .i64) (.pr (.int .i64) (.pr (.sl (.sl (.int .i64))) (.pr (.int .i64) (.int .u32))))), .d (.int .i64)] [15, 16, 20] [] (fun (ret15v : (List (List Int))) => (inIdx n ret15v.length ∧ inIdx m.2.2.2.1 (ret15v.getD (n).toNat ([] : (List Int))).length ∧ K (((ret15v.getD (n).toNat ([] : (List Int))).getD (m.2.2.2.1).toNat (0 : Int)), (0 : Int)))) (fun ret15v => [toV1 (.sl (.sl (.int .i64))) ret15v]) (fun ret15v => (⟨23, [(15, [], .v (.c (.p (.sl (.sl (.int .i64))) ret15v))), (16, [], .v (.c (.p (.int .i64) n))), (20, [], .v (.c (.p (.int .i64) m.2.2.2.1)))], []⟩ : St)) rfl (by kernel_rfl) rfl (by kernel_rfl) rfl (by kernel_rfl) Try.call57 (by kernel_rfl) (fun ret15v => by kernel_rfl) (fun e => by cases e) (fun hg => link57 m n _ h) (fun hg => noF hg) (fun ret15v h => ?_)
    have h : (inIdx n ret15v.length ∧ inIdx m.2.2.2.1 (ret15v.getD (n).toNat ([] : (List Int))).length ∧ K (((ret15v.getD (n).toNat ([] : (List Int))).getD (m.2.2.2.1).toNat (0 : Int)), (0 : Int))) := h
    obtain ⟨o1, o2, h⟩ := h
    refine awd_runp (by kernel_rfl) [4, 5, 8, 9, 10, 11] [4, 5] [] (ob := (inIdx n ret15v.length ∧ True ∧ inIdx m.2.2.2.1 (ret15v.getD (n).toNat ([] : (List Int))).length ∧ True ∧ True ∧ True ∧ True)) (done' := [11, 10, 9, 8, 5, 4, 2, 7, 6, 3, 1, 0]) (st' := (⟨23, [(4, [], .v (.c (.p (.int .i64) ((ret15v.getD (n).toNat ([] : (List Int))).getD (m.2.2.2.1).toNat (0 : Int))))), (5, [], .v (.c (.p (.int .i64) (0 : Int))))], []⟩ : St)) (by kernel_rfl) ⟨o1, trivial, o2, trivial, trivial, trivial, trivial⟩ ?_
    refine awd_done (by kernel_rfl) ?_
    refine thenQ_n ?_
    refine aw_ret ?_
    exact retQ_r (σ := Int × Int) (R := (fun y => [toV1 (.int .i64) y.1, toV1 (.int .i64) y.2])) (ob := (True ∧ True ∧ True)) (((ret15v.getD (n).toNat ([] : (List Int))).getD (m.2.2.2.1).toNat (0 : Int)), (0 : Int)) (by kernel_rfl) ⟨trivial, trivial, trivial⟩ h

-- coppicer/tally.Word
def VC34_k1 (K : (List Int) × Int → Prop) (out : (List Int)) : Prop :=
  K (out, (0 : Int))

def VC34_k2 (left : Int) (X1 : Int × Int × Int × (List Int) → Prop) (i3 : Int) (atv2 : Int) (out2 : (List Int)) : Prop :=
  (InR (left - (1 : Int)) ∧ X1 (i3, atv2, (left - (1 : Int)), out2))

def VC34_l2 (m : (Int × (Int × ((List (List Int)) × (Int × Int))))) (ret23v : (List (List Int))) (atv : Int) (left : Int) (out : (List Int)) (X1 : Int × Int × Int × (List Int) → Prop) (i3 : Int) (v52 : Int) (X2 : Int × Int → Prop) : Prop :=
  (((decide (v52 < ((m.2.2.1.getD (atv).toNat ([] : (List Int))).length : Int))) = true → (inIdx v52 (m.2.2.1.getD (atv).toNat ([] : (List Int))).length ∧ (inIdx left ret23v.length ∧ inIdx ((m.2.2.1.getD (atv).toNat ([] : (List Int))).getD (v52).toNat (0 : Int)) (ret23v.getD (left).toNat ([] : (List Int))).length ∧ (((decide (i3 < ((ret23v.getD (left).toNat ([] : (List Int))).getD (((m.2.2.1.getD (atv).toNat ([] : (List Int))).getD (v52).toNat (0 : Int))).toNat (0 : Int)))) = true → (roomN (out.length + [v52].length) ∧ VC34_k2 left X1 i3 ((m.2.2.1.getD (atv).toNat ([] : (List Int))).getD (v52).toNat (0 : Int)) (out ++ [v52]))) ∧ ((decide (i3 < ((ret23v.getD (left).toNat ([] : (List Int))).getD (((m.2.2.1.getD (atv).toNat ([] : (List Int))).getD (v52).toNat (0 : Int))).toNat (0 : Int)))) = false → (inIdx left ret23v.length ∧ inIdx ((m.2.2.1.getD (atv).toNat ([] : (List Int))).getD (v52).toNat (0 : Int)) (ret23v.getD (left).toNat ([] : (List Int))).length ∧ InR (i3 - ((ret23v.getD (left).toNat ([] : (List Int))).getD (((m.2.2.1.getD (atv).toNat ([] : (List Int))).getD (v52).toNat (0 : Int))).toNat (0 : Int))) ∧ (InR (v52 + (1 : Int)) ∧ X2 ((i3 - ((ret23v.getD (left).toNat ([] : (List Int))).getD (((m.2.2.1.getD (atv).toNat ([] : (List Int))).getD (v52).toNat (0 : Int))).toNat (0 : Int))), (v52 + (1 : Int)))))))))) ∧ ((decide (v52 < ((m.2.2.1.getD (atv).toNat ([] : (List Int))).length : Int))) = false → VC34_k2 left X1 i3 atv out))

def VC34_l1 (m : (Int × (Int × ((List (List Int)) × (Int × Int))))) (K : (List Int) × Int → Prop) (ret23v : (List (List Int))) (i2 : Int) (atv : Int) (left : Int) (out : (List Int)) (X1 : Int × Int × Int × (List Int) → Prop) : Prop :=
  (((decide ((0 : Int) ≤ left)) = true → (inIdx atv m.2.2.1.length ∧ Loop (σ := Int × Int) (fun s X => VC34_l2 m ret23v atv left out X1 s.1 s.2 X) (i2, (0 : Int)))) ∧ ((decide ((0 : Int) ≤ left)) = false → VC34_k1 K out))

def VC34 (m : (Int × (Int × ((List (List Int)) × (Int × Int))))) (n : Int) (i : Int) (K : (List Int) × Int → Prop) : Prop :=
  VC56 m n (fun (ret17v : Int) => (((!decide (ret17v = (0 : Int))) = true → K (([] : (List Int)), ret17v)) ∧ ((!decide (ret17v = (0 : Int))) = false → VC57 m n (fun (ret23v : (List (List Int))) => (((decide (i < (0 : Int))) = false → inIdx n ret23v.length) ∧ ((decide (i < (0 : Int))) = false → inIdx m.2.2.2.1 (ret23v.getD (n).toNat ([] : (List Int))).length) ∧ ((((decide (i < (0 : Int))) || (decide (((ret23v.getD (n).toNat ([] : (List Int))).getD (m.2.2.2.1).toNat (0 : Int)) ≤ i))) = true → K (([] : (List Int)), (5 : Int))) ∧ (((decide (i < (0 : Int))) || (decide (((ret23v.getD (n).toNat ([] : (List Int))).getD (m.2.2.2.1).toNat (0 : Int)) ≤ i))) = false → (InR (n - (1 : Int)) ∧ Loop (σ := Int × Int × Int × (List Int)) (fun s X => VC34_l1 m K ret23v s.1 s.2.1 s.2.2.1 s.2.2.2 X) (i, m.2.2.2.1, (n - (1 : Int)), ([] : List Int))))))))))

set_option maxHeartbeats 4000000 in
theorem link34 (m : (Int × (Int × ((List (List Int)) × (Int × Int))))) (n : Int) (i : Int) (K : (List Int) × Int → Prop) (h : VC34 m n i K) : ACalls Try.prog 34 [toV1 (.pr (.int .i64) (.pr (.int .i64) (.pr (.sl (.sl (.int .i64))) (.pr (.int .i64) (.int .u32))))) m, toV1 (.int .i64) n, toV1 (.int .i64) i] (fun res => ∃ y, res = (fun y => [toV1 (.sl (.int .i64)) y.1, toV1 (.int .i64) y.2]) y ∧ K y) := by
  refine acalls_of_aw [(.sl (.int .i64)), (.int .i64)] [.t 6, .t 7] Try.func34 rfl rfl rfl ?_
  unfold VC34 at h
  refine aw_seq ?_
  refine aw_region ?_
  refine awl_runp 3 [1, 2, 3] [3] (ob := (True ∧ True ∧ True ∧ True)) (st' := (⟨82, [(1, [], .v (.c (.p (.int .i64) n))), (2, [], .v (.c (.p (.int .i64) i))), (3, [], .v (.c (.ptr 3 0)))], [(3, [], .box [.p (.int .i64) m.1, .p (.int .i64) m.2.1, .p (.sl (.sl (.int .i64))) m.2.2.1, .p (.int .i64) m.2.2.2.1, .p (.int .u32) m.2.2.2.2])]⟩ : St)) (by kernel_rfl) ⟨trivial, trivial, trivial, trivial⟩ ?_
  refine awl_nil ?_
  refine thenQ_n ?_
  refine aw_seq ?_
  refine aw_seq ?_
  refine aw_region ?_
  refine awl_runp 2 [1, 2, 3, 15, 16] [3] (ob := (True ∧ True ∧ True)) (st' := (⟨82, [(1, [], .v (.c (.p (.int .i64) n))), (2, [], .v (.c (.p (.int .i64) i))), (3, [], .v (.c (.ptr 3 0))), (15, [], .v (.agg [.p (.int .i64) m.1, .p (.int .i64) m.2.1, .p (.sl (.sl (.int .i64))) m.2.2.1, .p (.int .i64) m.2.2.2.1, .p (.int .u32) m.2.2.2.2])), (16, [], .v (.c (.p (.int .i64) n)))], [(3, [], .box [.p (.int .i64) m.1, .p (.int .i64) m.2.1, .p (.sl (.sl (.int .i64))) m.2.2.1, .p (.int .i64) m.2.2.2.1, .p (.int .u32) m.2.2.2.2])]⟩ : St)) (by kernel_rfl) ⟨trivial, trivial, trivial⟩ ?_
  refine awl_callk (p := []) (l := [toV1 (.pr (.int .i64) (.pr (.int .i64) (.pr (.sl (.sl (.int .i64))) (.pr (.int .i64) (.int .u32))))) m, toV1 (.int .i64) n]) (cl := []) false [.d (.pr (.int .i64) (.pr (.int .i64) (.pr (.sl (.sl (.int .i64))) (.pr (.int .i64) (.int .u32))))), .d (.int .i64)] [1, 2, 3, 17] [3] (fun (ret17v : Int) => (((!decide (ret17v = (0 : Int))) = true → K (([] : (List Int)), ret17v)) ∧ ((!decide (ret17v = (0 : Int))) = false → VC57 m n (fun (ret23v : (List (List Int))) => (((decide (i < (0 : Int))) = false → inIdx n ret23v.length) ∧ ((decide (i < (0 : Int))) = false → inIdx m.2.2.2.1 (ret23v.getD (n).toNat ([] : (List Int))).length) ∧ ((((decide (i < (0 : Int))) || (decide (((ret23v.getD (n).toNat ([] : (List Int))).getD (m.2.2.2.1).toNat (0 : Int)) ≤ i))) = true → K (([] : (List Int)), (5 : Int))) ∧ (((decide (i < (0 : Int))) || (decide (((ret23v.getD (n).toNat ([] : (List Int))).getD (m.2.2.2.1).toNat (0 : Int)) ≤ i))) = false → (InR (n - (1 : Int)) ∧ Loop (σ := Int × Int × Int × (List Int)) (fun s X => VC34_l1 m K ret23v s.1 s.2.1 s.2.2.1 s.2.2.2 X) (i, m.2.2.2.1, (n - (1 : Int)), ([] : List Int)))))))))) (fun ret17v => [toV1 (.int .i64) ret17v]) (fun ret17v => (⟨82, [(1, [], .v (.c (.p (.int .i64) n))), (2, [], .v (.c (.p (.int .i64) i))), (3, [], .v (.c (.ptr 3 0))), (17, [], .v (.c (.p (.int .i64) ret17v)))], [(3, [], .box [.p (.int .i64) m.1, .p (.int .i64) m.2.1, .p (.sl (.sl (.int .i64))) m.2.2.1, .p (.int .i64) m.2.2.2.1, .p (.int .u32) m.2.2.2.2])]⟩ : St)) (by kernel_rfl) rfl (by kernel_rfl) rfl (by kernel_rfl) Try.call56 (by kernel_rfl) (fun ret17v => by kernel_rfl) (fun e => by cases e) (fun hg => link56 m n _ h) (fun hg => noF hg) (fun ret17v h => ?_)
  have h : (((!decide (ret17v = (0 : Int))) = true → K (([] : (List Int)), ret17v)) ∧ ((!decide (ret17v = (0 : Int))) = false → VC57 m n (fun (ret23v : (List (List Int))) => (((decide (i < (0 : Int))) = false → inIdx n ret23v.length) ∧ ((decide (i < (0 : Int))) = false → inIdx m.2.2.2.1 (ret23v.getD (n).toNat ([] : (List Int))).length) ∧ ((((decide (i < (0 : Int))) || (decide (((ret23v.getD (n).toNat ([] : (List Int))).getD (m.2.2.2.1).toNat (0 : Int)) ≤ i))) = true → K (([] : (List Int)), (5 : Int))) ∧ (((decide (i < (0 : Int))) || (decide (((ret23v.getD (n).toNat ([] : (List Int))).getD (m.2.2.2.1).toNat (0 : Int)) ≤ i))) = false → (InR (n - (1 : Int)) ∧ Loop (σ := Int × Int × Int × (List Int)) (fun s X => VC34_l1 m K ret23v s.1 s.2.1 s.2.2.1 s.2.2.2 X) (i, m.2.2.2.1, (n - (1 : Int)), ([] : List Int))))))))) := h
  refine awl_runp 1 [1, 2, 3, 8] [3] (ob := (True ∧ True)) (st' := (⟨82, [(1, [], .v (.c (.p (.int .i64) n))), (2, [], .v (.c (.p (.int .i64) i))), (3, [], .v (.c (.ptr 3 0))), (8, [], .v (.c (.p (.int .i64) ret17v)))], [(3, [], .box [.p (.int .i64) m.1, .p (.int .i64) m.2.1, .p (.sl (.sl (.int .i64))) m.2.2.1, .p (.int .i64) m.2.2.2.1, .p (.int .u32) m.2.2.2.2])]⟩ : St)) (by kernel_rfl) ⟨trivial, trivial⟩ ?_
  refine awl_nil ?_
  refine thenQ_n ?_
  refine aw_seq ?_
  refine aw_region ?_
  refine awl_runp 2 [1, 2, 3, 8, 19] [3] (ob := (True ∧ True ∧ True)) (st' := (⟨82, [(1, [], .v (.c (.p (.int .i64) n))), (2, [], .v (.c (.p (.int .i64) i))), (3, [], .v (.c (.ptr 3 0))), (8, [], .v (.c (.p (.int .i64) ret17v))), (19, [], .v (.c (.p .bool (!decide (ret17v = (0 : Int))))))], [(3, [], .box [.p (.int .i64) m.1, .p (.int .i64) m.2.1, .p (.sl (.sl (.int .i64))) m.2.2.1, .p (.int .i64) m.2.2.2.1, .p (.int .u32) m.2.2.2.2])]⟩ : St)) (by kernel_rfl) ⟨trivial, trivial, trivial⟩ ?_
  refine awl_nil ?_
  refine thenQ_n ?_
  refine aw_cond (b := (!decide (ret17v = (0 : Int)))) (by kernel_rfl) (fun hb => ?_) (fun hb => ?_)
  · have h := h.1 hb
    refine aw_seq ?_
    refine aw_region ?_
    refine awl_runp 3 [6, 7] [] (ob := (True ∧ True ∧ True ∧ True)) (st' := (⟨82, [(6, [], .v (.c (.nils))), (7, [], .v (.c (.p (.int .i64) ret17v)))], []⟩ : St)) (by kernel_rfl) ⟨trivial, trivial, trivial, trivial⟩ ?_
    refine awl_nil ?_
    refine thenQ_n ?_
    refine aw_ret ?_
    refine thenQ_r ?_
    exact retQ_r (σ := (List Int) × Int) (R := (fun y => [toV1 (.sl (.int .i64)) y.1, toV1 (.int .i64) y.2])) (ob := (True ∧ True ∧ True)) (([] : (List Int)), ret17v) (by kernel_rfl) ⟨trivial, trivial, trivial⟩ h
  · have h := h.2 hb
    refine aw_skip ?_
    refine thenQ_n ?_
    refine aw_seq ?_
    refine aw_region ?_
    refine awl_runp 2 [1, 2, 3, 21, 22] [3] (ob := (True ∧ True ∧ True)) (st' := (⟨82, [(1, [], .v (.c (.p (.int .i64) n))), (2, [], .v (.c (.p (.int .i64) i))), (3, [], .v (.c (.ptr 3 0))), (21, [], .v (.agg [.p (.int .i64) m.1, .p (.int .i64) m.2.1, .p (.sl (.sl (.int .i64))) m.2.2.1, .p (.int .i64) m.2.2.2.1, .p (.int .u32) m.2.2.2.2])), (22, [], .v (.c (.p (.int .i64) n)))], [(3, [], .box [.p (.int .i64) m.1, .p (.int .i64) m.2.1, .p (.sl (.sl (.int .i64))) m.2.2.1, .p (.int .i64) m.2.2.2.1, .p (.int .u32) m.2.2.2.2])]⟩ : St)) (by kernel_rfl) ⟨trivial, trivial, trivial⟩ ?_
    refine awl_callk (p := []) (l := [toV1 (.pr (.int .i64) (.pr (.int .i64) (.pr (.sl (.sl (.int .i64))) (.pr (.int .i64) (.int .u32))))) m, toV1 (.int .i64) n]) (cl := []) false [.d (.pr (.int .i64) (.pr (.int .i64) (.pr (.sl (.sl (.int .i64))) (.pr (.int .i64) (.int .u32))))), .d (.int .i64)] [1, 2, 3, 23] [3] (fun (ret23v : (List (List Int))) => (((decide (i < (0 : Int))) = false → inIdx n ret23v.length) ∧ ((decide (i < (0 : Int))) = false → inIdx m.2.2.2.1 (ret23v.getD (n).toNat ([] : (List Int))).length) ∧ ((((decide (i < (0 : Int))) || (decide (((ret23v.getD (n).toNat ([] : (List Int))).getD (m.2.2.2.1).toNat (0 : Int)) ≤ i))) = true → K (([] : (List Int)), (5 : Int))) ∧ (((decide (i < (0 : Int))) || (decide (((ret23v.getD (n).toNat ([] : (List Int))).getD (m.2.2.2.1).toNat (0 : Int)) ≤ i))) = false → (InR (n - (1 : Int)) ∧ Loop (σ := Int × Int × Int × (List Int)) (fun s X => VC34_l1 m K ret23v s.1 s.2.1 s.2.2.1 s.2.2.2 X) (i, m.2.2.2.1, (n - (1 : Int)), ([] : List Int))))))) (fun ret23v => [toV1 (.sl (.sl (.int .i64))) ret23v]) (fun ret23v => (⟨82, [(1, [], .v (.c (.p (.int .i64) n))), (2, [], .v (.c (.p (.int .i64) i))), (3, [], .v (.c (.ptr 3 0))), (23, [], .v (.c (.p (.sl (.sl (.int .i64))) ret23v)))], [(3, [], .box [.p (.int .i64) m.1, .p (.int .i64) m.2.1, .p (.sl (.sl (.int .i64))) m.2.2.1, .p (.int .i64) m.2.2.2.1, .p (.int .u32) m.2.2.2.2])]⟩ : St)) (by kernel_rfl) rfl (by kernel_rfl) rfl (by kernel_rfl) Try.call57 (by kernel_rfl) (fun ret23v => by kernel_rfl) (fun e => by cases e) (fun hg => link57 m n _ h) (fun hg => noF hg) (fun ret23v h => ?_)
    have h : (((decide (i < (0 : Int))) = false → inIdx n ret23v.length) ∧ ((decide (i < (0 : Int))) = false → inIdx m.2.2.2.1 (ret23v.getD (n).toNat ([] : (List Int))).length) ∧ ((((decide (i < (0 : Int))) || (decide (((ret23v.getD (n).toNat ([] : (List Int))).getD (m.2.2.2.1).toNat (0 : Int)) ≤ i))) = true → K (([] : (List Int)), (5 : Int))) ∧ (((decide (i < (0 : Int))) || (decide (((ret23v.getD (n).toNat ([] : (List Int))).getD (m.2.2.2.1).toNat (0 : Int)) ≤ i))) = false → (InR (n - (1 : Int)) ∧ Loop (σ := Int × Int × Int × (List Int)) (fun s X => VC34_l1 m K ret23v s.1 s.2.1 s.2.2.1 s.2.2.2 X) (i, m.2.2.2.1, (n - (1 : Int)), ([] : List Int)))))) := h
    refine awl_runp 1 [1, 2, 3, 9] [3] (ob := (True ∧ True)) (st' := (⟨82, [(1, [], .v (.c (.p (.int .i64) n))), (2, [], .v (.c (.p (.int .i64) i))), (3, [], .v (.c (.ptr 3 0))), (9, [], .v (.c (.p (.sl (.sl (.int .i64))) ret23v)))], [(3, [], .box [.p (.int .i64) m.1, .p (.int .i64) m.2.1, .p (.sl (.sl (.int .i64))) m.2.2.1, .p (.int .i64) m.2.2.2.1, .p (.int .u32) m.2.2.2.2])]⟩ : St)) (by kernel_rfl) ⟨trivial, trivial⟩ ?_
    refine awl_nil ?_
    refine thenQ_n ?_
    refine aw_seq ?_
    refine aw_seq ?_
    refine awd_begin [] (by kernel_rfl) ?_
    obtain ⟨o1, o2, h⟩ := h
    refine awd_runp (by kernel_rfl) [0, 1, 2, 3, 4, 5, 6, 7, 8, 9, 10, 11, 12, 13] [1, 2, 3, 9, 37] [3] (ob := (True ∧ True ∧ True ∧ ((decide (i < (0 : Int))) = false → True) ∧ ((decide (i < (0 : Int))) = false → True) ∧ ((decide (i < (0 : Int))) = false → True) ∧ ((decide (i < (0 : Int))) = false → inIdx n ret23v.length) ∧ ((decide (i < (0 : Int))) = false → True) ∧ ((decide (i < (0 : Int))) = false → True) ∧ ((decide (i < (0 : Int))) = false → True) ∧ ((decide (i < (0 : Int))) = false → inIdx m.2.2.2.1 (ret23v.getD (n).toNat ([] : (List Int))).length) ∧ ((decide (i < (0 : Int))) = false → True) ∧ ((decide (i < (0 : Int))) = false → True) ∧ True ∧ True)) (done' := [13, 12, 11, 10, 9, 8, 7, 6, 5, 4, 3, 2, 1, 0]) (st' := (⟨82, [(1, [], .v (.c (.p (.int .i64) n))), (2, [], .v (.c (.p (.int .i64) i))), (3, [], .v (.c (.ptr 3 0))), (9, [], .v (.c (.p (.sl (.sl (.int .i64))) ret23v))), (37, [], .v (.c (.p .bool ((decide (i < (0 : Int))) || (decide (((ret23v.getD (n).toNat ([] : (List Int))).getD (m.2.2.2.1).toNat (0 : Int)) ≤ i))))))], [(3, [], .box [.p (.int .i64) m.1, .p (.int .i64) m.2.1, .p (.sl (.sl (.int .i64))) m.2.2.1, .p (.int .i64) m.2.2.2.1, .p (.int .u32) m.2.2.2.2])]⟩ : St)) (by kernel_rfl) ⟨trivial, trivial, trivial, (fun _ => trivial), (fun _ => trivial), (fun _ => trivial), o1, (fun _ => trivial), (fun _ => trivial), (fun _ => trivial), o2, (fun _ => trivial), (fun _ => trivial), trivial, trivial⟩ ?_
    refine awd_done (by kernel_rfl) ?_
    refine thenQ_n ?_
    refine aw_cond (b := ((decide (i < (0 : Int))) || (decide (((ret23v.getD (n).toNat ([] : (List Int))).getD (m.2.2.2.1).toNat (0 : Int)) ≤ i)))) (by kernel_rfl) (fun hb => ?_) (fun hb => ?_)
    · have h := h.1 hb
      refine aw_seq ?_
      refine aw_region ?_
      refine awl_runp 2 [6, 7] [] (ob := (True ∧ True ∧ True)) (st' := (⟨82, [(6, [], .v (.c (.nils))), (7, [], .v (.c (.p (.int .i64) (5 : Int))))], []⟩ : St)) (by kernel_rfl) ⟨trivial, trivial, trivial⟩ ?_
      refine awl_nil ?_
      refine thenQ_n ?_
      refine aw_ret ?_
      refine thenQ_r ?_
      exact retQ_r (σ := (List Int) × Int) (R := (fun y => [toV1 (.sl (.int .i64)) y.1, toV1 (.int .i64) y.2])) (ob := (True ∧ True ∧ True)) (([] : (List Int)), (5 : Int)) (by kernel_rfl) ⟨trivial, trivial, trivial⟩ h
    · have h := h.2 hb
      refine aw_skip ?_
      refine thenQ_n ?_
      refine aw_seq ?_
      refine aw_region ?_
      refine awl_runp 1 [1, 2, 3, 9, 10] [3] (ob := (True ∧ True)) (st' := (⟨82, [(1, [], .v (.c (.p (.int .i64) n))), (2, [], .v (.c (.p (.int .i64) i))), (3, [], .v (.c (.ptr 3 0))), (9, [], .v (.c (.p (.sl (.sl (.int .i64))) ret23v))), (10, [], .v (.c (.nils)))], [(3, [], .box [.p (.int .i64) m.1, .p (.int .i64) m.2.1, .p (.sl (.sl (.int .i64))) m.2.2.1, .p (.int .i64) m.2.2.2.1, .p (.int .u32) m.2.2.2.2])]⟩ : St)) (by kernel_rfl) ⟨trivial, trivial⟩ ?_
      refine awl_nil ?_
      refine thenQ_n ?_
      refine aw_seq ?_
      refine aw_region ?_
      refine awl_runp 3 [1, 2, 3, 9, 10, 11] [3] (ob := (True ∧ True ∧ True ∧ True)) (st' := (⟨82, [(1, [], .v (.c (.p (.int .i64) n))), (2, [], .v (.c (.p (.int .i64) i))), (3, [], .v (.c (.ptr 3 0))), (9, [], .v (.c (.p (.sl (.sl (.int .i64))) ret23v))), (10, [], .v (.c (.nils))), (11, [], .v (.c (.p (.int .i64) m.2.2.2.1)))], [(3, [], .box [.p (.int .i64) m.1, .p (.int .i64) m.2.1, .p (.sl (.sl (.int .i64))) m.2.2.1, .p (.int .i64) m.2.2.2.1, .p (.int .u32) m.2.2.2.2])]⟩ : St)) (by kernel_rfl) ⟨trivial, trivial, trivial, trivial⟩ ?_
      refine awl_nil ?_
      refine thenQ_n ?_
      refine aw_seq ?_
      refine aw_seq ?_
      refine aw_region ?_
      obtain ⟨o1, h⟩ := h
      refine awl_runp 3 [2, 3, 9, 10, 11, 12] [3] (ob := (True ∧ InR (n - (1 : Int)) ∧ True ∧ True)) (st' := (⟨82, [(2, [], .v (.c (.p (.int .i64) i))), (3, [], .v (.c (.ptr 3 0))), (9, [], .v (.c (.p (.sl (.sl (.int .i64))) ret23v))), (10, [], .v (.c (.nils))), (11, [], .v (.c (.p (.int .i64) m.2.2.2.1))), (12, [], .v (.c (.p (.int .i64) (n - (1 : Int)))))], [(3, [], .box [.p (.int .i64) m.1, .p (.int .i64) m.2.1, .p (.sl (.sl (.int .i64))) m.2.2.1, .p (.int .i64) m.2.2.2.1, .p (.int .u32) m.2.2.2.2])]⟩ : St)) (by kernel_rfl) ⟨trivial, o1, trivial, trivial⟩ ?_
      refine awl_nil ?_
      refine thenQ_n ?_
      refine withJoin (σ := (List Int)) (fun s => (⟨82, [(10, [], .v (.c (.own 5010)))], [(5010, [], .arr 3 (.int .i64) s)]⟩ : St)) (fun s => VC34_k1 K s) (fun out h => ?_) (fun rest1 => ?_)
      · have h : VC34_k1 K out := h
        unfold VC34_k1 at h
        refine thenQ_n ?_
        refine aw_seq ?_
        refine aw_region ?_
        refine awl_runp 3 [6, 7] [5010] (ob := (True ∧ True ∧ True ∧ True)) (st' := (⟨82, [(6, [], .v (.c (.own 5010))), (7, [], .v (.c (.p (.int .i64) (0 : Int))))], [(5010, [], .arr 3 (.int .i64) out)]⟩ : St)) (by kernel_rfl) ⟨trivial, trivial, trivial, trivial⟩ ?_
        refine awl_nil ?_
        refine thenQ_n ?_
        refine aw_conv [.freeze 5010] (st' := (⟨82, [(6, [], .v (.c (.p (.sl (.int .i64)) out))), (7, [], .v (.c (.p (.int .i64) (0 : Int))))], []⟩ : St)) (by kernel_rfl) ?_
        refine aw_ret ?_
        exact retQ_r (σ := (List Int) × Int) (R := (fun y => [toV1 (.sl (.int .i64)) y.1, toV1 (.int .i64) y.2])) (ob := (True ∧ True ∧ True)) (out, (0 : Int)) (by kernel_rfl) ⟨trivial, trivial, trivial⟩ h
      · refine aw_block ?_
        refine aw_conv [.nilOwn 10 5010 3 (.int .i64), .prune [2, 3, 9, 10, 11, 12] [3, 5010]] (st' := (⟨82, [(2, [], .v (.c (.p (.int .i64) i))), (3, [], .v (.c (.ptr 3 0))), (9, [], .v (.c (.p (.sl (.sl (.int .i64))) ret23v))), (10, [], .v (.c (.own 5010))), (11, [], .v (.c (.p (.int .i64) m.2.2.2.1))), (12, [], .v (.c (.p (.int .i64) (n - (1 : Int)))))], [(3, [], .box [.p (.int .i64) m.1, .p (.int .i64) m.2.1, .p (.sl (.sl (.int .i64))) m.2.2.1, .p (.int .i64) m.2.2.2.1, .p (.int .u32) m.2.2.2.2]), (5010, [], .arr 3 (.int .i64) ([] : List Int))]⟩ : St)) (by kernel_rfl) ?_
        refine aw_loop (σ := Int × Int × Int × (List Int)) (fun s => (⟨82, [(2, [], .v (.c (.p (.int .i64) s.1))), (3, [], .v (.c (.ptr 3 0))), (9, [], .v (.c (.p (.sl (.sl (.int .i64))) ret23v))), (10, [], .v (.c (.own 5010))), (11, [], .v (.c (.p (.int .i64) s.2.1))), (12, [], .v (.c (.p (.int .i64) s.2.2.1)))], [(3, [], .box [.p (.int .i64) m.1, .p (.int .i64) m.2.1, .p (.sl (.sl (.int .i64))) m.2.2.1, .p (.int .i64) m.2.2.2.1, .p (.int .u32) m.2.2.2.2]), (5010, [], .arr 3 (.int .i64) s.2.2.2)]⟩ : St)) (fun s X => VC34_l1 m K ret23v s.1 s.2.1 s.2.2.1 s.2.2.2 X) (s0 := (i, m.2.2.2.1, (n - (1 : Int)), ([] : List Int))) (fun s X1 h => ?_) h
        obtain ⟨i2, atv, left, out⟩ := s
        have h : VC34_l1 m K ret23v i2 atv left out X1 := h
        unfold VC34_l1 at h
        refine aw_seq ?_
        refine aw_seq ?_
        refine aw_region ?_
        refine awl_runp 2 [2, 3, 9, 10, 11, 12, 43] [3, 5010] (ob := (True ∧ True ∧ True)) (st' := (⟨82, [(2, [], .v (.c (.p (.int .i64) i2))), (3, [], .v (.c (.ptr 3 0))), (9, [], .v (.c (.p (.sl (.sl (.int .i64))) ret23v))), (10, [], .v (.c (.own 5010))), (11, [], .v (.c (.p (.int .i64) atv))), (12, [], .v (.c (.p (.int .i64) left))), (43, [], .v (.c (.p .bool (decide ((0 : Int) ≤ left)))))], [(3, [], .box [.p (.int .i64) m.1, .p (.int .i64) m.2.1, .p (.sl (.sl (.int .i64))) m.2.2.1, .p (.int .i64) m.2.2.2.1, .p (.int .u32) m.2.2.2.2]), (5010, [], .arr 3 (.int .i64) out)]⟩ : St)) (by kernel_rfl) ⟨trivial, trivial, trivial⟩ ?_
        refine awl_nil ?_
        refine thenQ_n ?_
        refine aw_cond (b := (decide ((0 : Int) ≤ left))) (by kernel_rfl) (fun hb => ?_) (fun hb => ?_)
        · have h := h.1 hb
          refine aw_skip ?_
          refine thenQ_n ?_
          refine aw_seq ?_
          refine aw_block ?_
          refine aw_seq ?_
          refine aw_region ?_
          obtain ⟨o1, h⟩ := h
          refine awl_runp 7 [2, 3, 9, 10, 11, 12, 50, 51, 52] [3, 5010] (ob := (True ∧ True ∧ True ∧ inIdx atv m.2.2.1.length ∧ True ∧ True ∧ True ∧ True)) (st' := (⟨82, [(2, [], .v (.c (.p (.int .i64) i2))), (3, [], .v (.c (.ptr 3 0))), (9, [], .v (.c (.p (.sl (.sl (.int .i64))) ret23v))), (10, [], .v (.c (.own 5010))), (11, [], .v (.c (.p (.int .i64) atv))), (12, [], .v (.c (.p (.int .i64) left))), (50, [], .v (.c (.p (.sl (.int .i64)) (m.2.2.1.getD (atv).toNat ([] : (List Int)))))), (51, [], .v (.c (.p (.int .i64) ((m.2.2.1.getD (atv).toNat ([] : (List Int))).length : Int)))), (52, [], .v (.c (.p (.int .i64) (0 : Int))))], [(3, [], .box [.p (.int .i64) m.1, .p (.int .i64) m.2.1, .p (.sl (.sl (.int .i64))) m.2.2.1, .p (.int .i64) m.2.2.2.1, .p (.int .u32) m.2.2.2.2]), (5010, [], .arr 3 (.int .i64) out)]⟩ : St)) (by kernel_rfl) ⟨trivial, trivial, trivial, o1, trivial, trivial, trivial, trivial⟩ ?_
          refine awl_nil ?_
          refine thenQ_n ?_
          refine withJoin (σ := Int × Int × (List Int)) (fun s => (⟨82, [(2, [], .v (.c (.p (.int .i64) s.1))), (3, [], .v (.c (.ptr 3 0))), (9, [], .v (.c (.p (.sl (.sl (.int .i64))) ret23v))), (10, [], .v (.c (.own 69))), (11, [], .v (.c (.p (.int .i64) s.2.1))), (12, [], .v (.c (.p (.int .i64) left)))], [(3, [], .box [.p (.int .i64) m.1, .p (.int .i64) m.2.1, .p (.sl (.sl (.int .i64))) m.2.2.1, .p (.int .i64) m.2.2.2.1, .p (.int .u32) m.2.2.2.2]), (69, [], .arr 3 (.int .i64) s.2.2)]⟩ : St)) (fun s => VC34_k2 left X1 s.1 s.2.1 s.2.2) (fun s h => ?_) (fun rest2 => ?_)
          · obtain ⟨i3, atv2, out2⟩ := s
            have h : VC34_k2 left X1 i3 atv2 out2 := h
            unfold VC34_k2 at h
            refine blockQ_n ?_
            refine thenQ_n ?_
            refine aw_region ?_
            obtain ⟨o1, h⟩ := h
            refine awl_runp 3 [2, 3, 9, 10, 11, 12] [3, 69] (ob := (True ∧ InR (left - (1 : Int)) ∧ True ∧ True)) (st' := (⟨82, [(2, [], .v (.c (.p (.int .i64) i3))), (3, [], .v (.c (.ptr 3 0))), (9, [], .v (.c (.p (.sl (.sl (.int .i64))) ret23v))), (10, [], .v (.c (.own 69))), (11, [], .v (.c (.p (.int .i64) atv2))), (12, [], .v (.c (.p (.int .i64) (left - (1 : Int)))))], [(3, [], .box [.p (.int .i64) m.1, .p (.int .i64) m.2.1, .p (.sl (.sl (.int .i64))) m.2.2.1, .p (.int .i64) m.2.2.2.1, .p (.int .u32) m.2.2.2.2]), (69, [], .arr 3 (.int .i64) out2)]⟩ : St)) (by kernel_rfl) ⟨trivial, o1, trivial, trivial⟩ ?_
            refine awl_conv [.ren 69 20069, .ren 20069 5010] (st' := (⟨82, [(2, [], .v (.c (.p (.int .i64) i3))), (3, [], .v (.c (.ptr 3 0))), (9, [], .v (.c (.p (.sl (.sl (.int .i64))) ret23v))), (10, [], .v (.c (.own 5010))), (11, [], .v (.c (.p (.int .i64) atv2))), (12, [], .v (.c (.p (.int .i64) (left - (1 : Int)))))], [(3, [], .box [.p (.int .i64) m.1, .p (.int .i64) m.2.1, .p (.sl (.sl (.int .i64))) m.2.2.1, .p (.int .i64) m.2.2.2.1, .p (.int .u32) m.2.2.2.2]), (5010, [], .arr 3 (.int .i64) out2)]⟩ : St)) (by kernel_rfl) ?_
            refine awl_nil ?_
            exact thenQ_n ⟨(i3, atv2, (left - (1 : Int)), out2), rfl, h⟩
          · refine aw_block ?_
            refine aw_loop (σ := Int × Int) (fun s => (⟨82, [(2, [], .v (.c (.p (.int .i64) s.1))), (3, [], .v (.c (.ptr 3 0))), (9, [], .v (.c (.p (.sl (.sl (.int .i64))) ret23v))), (10, [], .v (.c (.own 5010))), (11, [], .v (.c (.p (.int .i64) atv))), (12, [], .v (.c (.p (.int .i64) left))), (50, [], .v (.c (.p (.sl (.int .i64)) (m.2.2.1.getD (atv).toNat ([] : (List Int)))))), (51, [], .v (.c (.p (.int .i64) ((m.2.2.1.getD (atv).toNat ([] : (List Int))).length : Int)))), (52, [], .v (.c (.p (.int .i64) s.2)))], [(3, [], .box [.p (.int .i64) m.1, .p (.int .i64) m.2.1, .p (.sl (.sl (.int .i64))) m.2.2.1, .p (.int .i64) m.2.2.2.1, .p (.int .u32) m.2.2.2.2]), (5010, [], .arr 3 (.int .i64) out)]⟩ : St)) (fun s X => VC34_l2 m ret23v atv left out X1 s.1 s.2 X) (s0 := (i2, (0 : Int))) (fun s X2 h => ?_) h
            obtain ⟨i3, v52⟩ := s
            have h : VC34_l2 m ret23v atv left out X1 i3 v52 X2 := h
            unfold VC34_l2 at h
            refine aw_seq ?_
            refine aw_region ?_
            refine awl_runp 1 [2, 3, 9, 10, 11, 12, 50, 51, 52, 53] [3, 5010] (ob := (True ∧ True)) (st' := (⟨82, [(2, [], .v (.c (.p (.int .i64) i3))), (3, [], .v (.c (.ptr 3 0))), (9, [], .v (.c (.p (.sl (.sl (.int .i64))) ret23v))), (10, [], .v (.c (.own 5010))), (11, [], .v (.c (.p (.int .i64) atv))), (12, [], .v (.c (.p (.int .i64) left))), (50, [], .v (.c (.p (.sl (.int .i64)) (m.2.2.1.getD (atv).toNat ([] : (List Int)))))), (51, [], .v (.c (.p (.int .i64) ((m.2.2.1.getD (atv).toNat ([] : (List Int))).length : Int)))), (52, [], .v (.c (.p (.int .i64) v52))), (53, [], .v (.c (.p .bool (decide (v52 < ((m.2.2.1.getD (atv).toNat ([] : (List Int))).length : Int))))))], [(3, [], .box [.p (.int .i64) m.1, .p (.int .i64) m.2.1, .p (.sl (.sl (.int .i64))) m.2.2.1, .p (.int .i64) m.2.2.2.1, .p (.int .u32) m.2.2.2.2]), (5010, [], .arr 3 (.int .i64) out)]⟩ : St)) (by kernel_rfl) ⟨trivial, trivial⟩ ?_
            refine awl_nil ?_
            refine thenQ_n ?_
            refine aw_seq ?_
            refine aw_cond (b := (decide (v52 < ((m.2.2.1.getD (atv).toNat ([] : (List Int))).length : Int)))) (by kernel_rfl) (fun hb => ?_) (fun hb => ?_)
            · have h := h.1 hb
              refine aw_skip ?_
              refine thenQ_n ?_
              refine aw_seq ?_
              refine aw_block ?_
              refine aw_seq ?_
              refine aw_region ?_
              obtain ⟨o1, h⟩ := h
              refine awl_runp 5 [2, 3, 9, 10, 11, 12, 13, 14, 50, 51, 52] [3, 5010] (ob := (True ∧ inIdx v52 (m.2.2.1.getD (atv).toNat ([] : (List Int))).length ∧ True ∧ True ∧ True ∧ True)) (st' := (⟨82, [(2, [], .v (.c (.p (.int .i64) i3))), (3, [], .v (.c (.ptr 3 0))), (9, [], .v (.c (.p (.sl (.sl (.int .i64))) ret23v))), (10, [], .v (.c (.own 5010))), (11, [], .v (.c (.p (.int .i64) atv))), (12, [], .v (.c (.p (.int .i64) left))), (13, [], .v (.c (.p (.int .i64) v52))), (14, [], .v (.c (.p (.int .i64) ((m.2.2.1.getD (atv).toNat ([] : (List Int))).getD (v52).toNat (0 : Int))))), (50, [], .v (.c (.p (.sl (.int .i64)) (m.2.2.1.getD (atv).toNat ([] : (List Int)))))), (51, [], .v (.c (.p (.int .i64) ((m.2.2.1.getD (atv).toNat ([] : (List Int))).length : Int)))), (52, [], .v (.c (.p (.int .i64) v52)))], [(3, [], .box [.p (.int .i64) m.1, .p (.int .i64) m.2.1, .p (.sl (.sl (.int .i64))) m.2.2.1, .p (.int .i64) m.2.2.2.1, .p (.int .u32) m.2.2.2.2]), (5010, [], .arr 3 (.int .i64) out)]⟩ : St)) (by kernel_rfl) ⟨trivial, o1, trivial, trivial, trivial, trivial⟩ ?_
              refine awl_nil ?_
              refine thenQ_n ?_
              refine aw_seq ?_
              refine aw_seq ?_
              refine aw_region ?_
              obtain ⟨o1, o2, h⟩ := h
              refine awl_runp 9 [2, 3, 9, 10, 11, 12, 13, 14, 50, 51, 52, 65] [3, 5010] (ob := (True ∧ True ∧ True ∧ inIdx left ret23v.length ∧ True ∧ True ∧ inIdx ((m.2.2.1.getD (atv).toNat ([] : (List Int))).getD (v52).toNat (0 : Int)) (ret23v.getD (left).toNat ([] : (List Int))).length ∧ True ∧ True ∧ True)) (st' := (⟨82, [(2, [], .v (.c (.p (.int .i64) i3))), (3, [], .v (.c (.ptr 3 0))), (9, [], .v (.c (.p (.sl (.sl (.int .i64))) ret23v))), (10, [], .v (.c (.own 5010))), (11, [], .v (.c (.p (.int .i64) atv))), (12, [], .v (.c (.p (.int .i64) left))), (13, [], .v (.c (.p (.int .i64) v52))), (14, [], .v (.c (.p (.int .i64) ((m.2.2.1.getD (atv).toNat ([] : (List Int))).getD (v52).toNat (0 : Int))))), (50, [], .v (.c (.p (.sl (.int .i64)) (m.2.2.1.getD (atv).toNat ([] : (List Int)))))), (51, [], .v (.c (.p (.int .i64) ((m.2.2.1.getD (atv).toNat ([] : (List Int))).length : Int)))), (52, [], .v (.c (.p (.int .i64) v52))), (65, [], .v (.c (.p .bool (decide (i3 < ((ret23v.getD (left).toNat ([] : (List Int))).getD (((m.2.2.1.getD (atv).toNat ([] : (List Int))).getD (v52).toNat (0 : Int))).toNat (0 : Int)))))))], [(3, [], .box [.p (.int .i64) m.1, .p (.int .i64) m.2.1, .p (.sl (.sl (.int .i64))) m.2.2.1, .p (.int .i64) m.2.2.2.1, .p (.int .u32) m.2.2.2.2]), (5010, [], .arr 3 (.int .i64) out)]⟩ : St)) (by kernel_rfl) ⟨trivial, trivial, trivial, o1, trivial, trivial, o2, trivial, trivial, trivial⟩ ?_
              refine awl_nil ?_
              refine thenQ_n ?_
              refine aw_cond (b := (decide (i3 < ((ret23v.getD (left).toNat ([] : (List Int))).getD (((m.2.2.1.getD (atv).toNat ([] : (List Int))).getD (v52).toNat (0 : Int))).toNat (0 : Int))))) (by kernel_rfl) (fun hb => ?_) (fun hb => ?_)
              · have h := h.1 hb
                refine aw_seq ?_
                refine aw_region ?_
                obtain ⟨o1, h⟩ := h
                refine awl_runp 5 [2, 3, 9, 10, 12, 14] [3, 69] (ob := (True ∧ True ∧ True ∧ roomN (out.length + [v52].length) ∧ True ∧ True)) (st' := (⟨82, [(2, [], .v (.c (.p (.int .i64) i3))), (3, [], .v (.c (.ptr 3 0))), (9, [], .v (.c (.p (.sl (.sl (.int .i64))) ret23v))), (10, [], .v (.c (.own 69))), (12, [], .v (.c (.p (.int .i64) left))), (14, [], .v (.c (.p (.int .i64) ((m.2.2.1.getD (atv).toNat ([] : (List Int))).getD (v52).toNat (0 : Int)))))], [(3, [], .box [.p (.int .i64) m.1, .p (.int .i64) m.2.1, .p (.sl (.sl (.int .i64))) m.2.2.1, .p (.int .i64) m.2.2.2.1, .p (.int .u32) m.2.2.2.2]), (69, [], .arr 3 (.int .i64) (out ++ [v52]))]⟩ : St)) (by kernel_rfl) ⟨trivial, trivial, trivial, o1, trivial, trivial⟩ ?_
                refine awl_nil ?_
                refine thenQ_n ?_
                refine aw_seq ?_
                refine aw_region ?_
                refine awl_runp 2 [2, 3, 9, 10, 11, 12] [3, 69] (ob := (True ∧ True ∧ True)) (st' := (⟨82, [(2, [], .v (.c (.p (.int .i64) i3))), (3, [], .v (.c (.ptr 3 0))), (9, [], .v (.c (.p (.sl (.sl (.int .i64))) ret23v))), (10, [], .v (.c (.own 69))), (11, [], .v (.c (.p (.int .i64) ((m.2.2.1.getD (atv).toNat ([] : (List Int))).getD (v52).toNat (0 : Int))))), (12, [], .v (.c (.p (.int .i64) left)))], [(3, [], .box [.p (.int .i64) m.1, .p (.int .i64) m.2.1, .p (.sl (.sl (.int .i64))) m.2.2.1, .p (.int .i64) m.2.2.2.1, .p (.int .u32) m.2.2.2.2]), (69, [], .arr 3 (.int .i64) (out ++ [v52]))]⟩ : St)) (by kernel_rfl) ⟨trivial, trivial, trivial⟩ ?_
                refine awl_nil ?_
                refine thenQ_n ?_
                refine aw_exit ?_
                refine thenQ_x ?_
                refine blockQ_miss rfl ?_
                refine thenQ_x ?_
                refine thenQ_x ?_
                refine blockQ_hit ?_
                exact rest2 (i3, ((m.2.2.1.getD (atv).toNat ([] : (List Int))).getD (v52).toNat (0 : Int)), (out ++ [v52])) h
              · have h := h.2 hb
                refine aw_skip ?_
                refine thenQ_n ?_
                refine aw_region ?_
                obtain ⟨o1, o2, o3, h⟩ := h
                refine awl_runp 10 [2, 3, 9, 10, 11, 12, 50, 51, 52] [3, 5010] (ob := (True ∧ True ∧ True ∧ inIdx left ret23v.length ∧ True ∧ True ∧ inIdx ((m.2.2.1.getD (atv).toNat ([] : (List Int))).getD (v52).toNat (0 : Int)) (ret23v.getD (left).toNat ([] : (List Int))).length ∧ True ∧ InR (i3 - ((ret23v.getD (left).toNat ([] : (List Int))).getD (((m.2.2.1.getD (atv).toNat ([] : (List Int))).getD (v52).toNat (0 : Int))).toNat (0 : Int))) ∧ True ∧ True)) (st' := (⟨82, [(2, [], .v (.c (.p (.int .i64) (i3 - ((ret23v.getD (left).toNat ([] : (List Int))).getD (((m.2.2.1.getD (atv).toNat ([] : (List Int))).getD (v52).toNat (0 : Int))).toNat (0 : Int)))))), (3, [], .v (.c (.ptr 3 0))), (9, [], .v (.c (.p (.sl (.sl (.int .i64))) ret23v))), (10, [], .v (.c (.own 5010))), (11, [], .v (.c (.p (.int .i64) atv))), (12, [], .v (.c (.p (.int .i64) left))), (50, [], .v (.c (.p (.sl (.int .i64)) (m.2.2.1.getD (atv).toNat ([] : (List Int)))))), (51, [], .v (.c (.p (.int .i64) ((m.2.2.1.getD (atv).toNat ([] : (List Int))).length : Int)))), (52, [], .v (.c (.p (.int .i64) v52)))], [(3, [], .box [.p (.int .i64) m.1, .p (.int .i64) m.2.1, .p (.sl (.sl (.int .i64))) m.2.2.1, .p (.int .i64) m.2.2.2.1, .p (.int .u32) m.2.2.2.2]), (5010, [], .arr 3 (.int .i64) out)]⟩ : St)) (by kernel_rfl) ⟨trivial, trivial, trivial, o1, trivial, trivial, o2, trivial, o3, trivial, trivial⟩ ?_
                refine awl_nil ?_
                refine blockQ_n ?_
                refine thenQ_n ?_
                refine aw_region ?_
                obtain ⟨o1, h⟩ := h
                refine awl_runp 2 [2, 3, 9, 10, 11, 12, 50, 51, 52] [3, 5010] (ob := (InR (v52 + (1 : Int)) ∧ True ∧ True)) (st' := (⟨82, [(2, [], .v (.c (.p (.int .i64) (i3 - ((ret23v.getD (left).toNat ([] : (List Int))).getD (((m.2.2.1.getD (atv).toNat ([] : (List Int))).getD (v52).toNat (0 : Int))).toNat (0 : Int)))))), (3, [], .v (.c (.ptr 3 0))), (9, [], .v (.c (.p (.sl (.sl (.int .i64))) ret23v))), (10, [], .v (.c (.own 5010))), (11, [], .v (.c (.p (.int .i64) atv))), (12, [], .v (.c (.p (.int .i64) left))), (50, [], .v (.c (.p (.sl (.int .i64)) (m.2.2.1.getD (atv).toNat ([] : (List Int)))))), (51, [], .v (.c (.p (.int .i64) ((m.2.2.1.getD (atv).toNat ([] : (List Int))).length : Int)))), (52, [], .v (.c (.p (.int .i64) (v52 + (1 : Int)))))], [(3, [], .box [.p (.int .i64) m.1, .p (.int .i64) m.2.1, .p (.sl (.sl (.int .i64))) m.2.2.1, .p (.int .i64) m.2.2.2.1, .p (.int .u32) m.2.2.2.2]), (5010, [], .arr 3 (.int .i64) out)]⟩ : St)) (by kernel_rfl) ⟨o1, trivial, trivial⟩ ?_
                refine awl_nil ?_
                exact thenQ_n ⟨((i3 - ((ret23v.getD (left).toNat ([] : (List Int))).getD (((m.2.2.1.getD (atv).toNat ([] : (List Int))).getD (v52).toNat (0 : Int))).toNat (0 : Int))), (v52 + (1 : Int))), rfl, h⟩
            · have h := h.2 hb
              refine aw_conv [.prune [2, 3, 9, 10, 11, 12] [3, 5010], .ren 5010 25010, .ren 25010 69] (st' := (⟨82, [(2, [], .v (.c (.p (.int .i64) i3))), (3, [], .v (.c (.ptr 3 0))), (9, [], .v (.c (.p (.sl (.sl (.int .i64))) ret23v))), (10, [], .v (.c (.own 69))), (11, [], .v (.c (.p (.int .i64) atv))), (12, [], .v (.c (.p (.int .i64) left)))], [(3, [], .box [.p (.int .i64) m.1, .p (.int .i64) m.2.1, .p (.sl (.sl (.int .i64))) m.2.2.1, .p (.int .i64) m.2.2.2.1, .p (.int .u32) m.2.2.2.2]), (69, [], .arr 3 (.int .i64) out)]⟩ : St)) (by kernel_rfl) ?_
              refine aw_exit ?_
              refine thenQ_x ?_
              refine thenQ_x ?_
              refine blockQ_hit ?_
              exact rest2 (i3, atv, out) h
        · have h := h.2 hb
          refine aw_conv [.prune [10] [5010]] (st' := (⟨82, [(10, [], .v (.c (.own 5010)))], [(5010, [], .arr 3 (.int .i64) out)]⟩ : St)) (by kernel_rfl) ?_
          refine aw_exit ?_
          refine thenQ_x ?_
          refine thenQ_x ?_
          refine blockQ_hit ?_
          exact rest1 out h

-- coppicer/tally.Place
def VC35_k1 (K : Int × Int → Prop) (n : Int) : Prop :=
  K (n, (0 : Int))

def VC35_k2 (m : (Int × (Int × ((List (List Int)) × (Int × Int))))) (w : (List Int)) (atv : Int) (v28 : Int) (X1 : Int × Int × Int → Prop) (n2 : Int) : Prop :=
  (inIdx atv m.2.2.1.length ∧ inIdx (w.getD (v28).toNat (0 : Int)) (m.2.2.1.getD (atv).toNat ([] : (List Int))).length ∧ (InR (v28 + (1 : Int)) ∧ X1 (n2, ((m.2.2.1.getD (atv).toNat ([] : (List Int))).getD ((w.getD (v28).toNat (0 : Int))).toNat (0 : Int)), (v28 + (1 : Int)))))

def VC35_l2 (m : (Int × (Int × ((List (List Int)) × (Int × Int))))) (w : (List Int)) (ret23v : (List (List Int))) (atv : Int) (v28 : Int) (X1 : Int × Int × Int → Prop) (n2 : Int) (v41 : Int) (X2 : Int × Int → Prop) : Prop :=
  (((decide (v41 < (((m.2.2.1.getD (atv).toNat ([] : (List Int))).take ((w.getD (v28).toNat (0 : Int))).toNat).length : Int))) = true → (inIdx v41 ((m.2.2.1.getD (atv).toNat ([] : (List Int))).take ((w.getD (v28).toNat (0 : Int))).toNat).length ∧ (InR ((w.length : Int) - (1 : Int)) ∧ InR (((w.length : Int) - (1 : Int)) - v28) ∧ inIdx (((w.length : Int) - (1 : Int)) - v28) ret23v.length ∧ inIdx (((m.2.2.1.getD (atv).toNat ([] : (List Int))).take ((w.getD (v28).toNat (0 : Int))).toNat).getD (v41).toNat (0 : Int)) (ret23v.getD ((((w.length : Int) - (1 : Int)) - v28)).toNat ([] : (List Int))).length ∧ InR (n2 + ((ret23v.getD ((((w.length : Int) - (1 : Int)) - v28)).toNat ([] : (List Int))).getD ((((m.2.2.1.getD (atv).toNat ([] : (List Int))).take ((w.getD (v28).toNat (0 : Int))).toNat).getD (v41).toNat (0 : Int))).toNat (0 : Int))) ∧ (InR (v41 + (1 : Int)) ∧ X2 ((n2 + ((ret23v.getD ((((w.length : Int) - (1 : Int)) - v28)).toNat ([] : (List Int))).getD ((((m.2.2.1.getD (atv).toNat ([] : (List Int))).take ((w.getD (v28).toNat (0 : Int))).toNat).getD (v41).toNat (0 : Int))).toNat (0 : Int))), (v41 + (1 : Int))))))) ∧ ((decide (v41 < (((m.2.2.1.getD (atv).toNat ([] : (List Int))).take ((w.getD (v28).toNat (0 : Int))).toNat).length : Int))) = false → VC35_k2 m w atv v28 X1 n2))

def VC35_l1 (m : (Int × (Int × ((List (List Int)) × (Int × Int))))) (w : (List Int)) (K : Int × Int → Prop) (ret23v : (List (List Int))) (n : Int) (atv : Int) (v28 : Int) (X1 : Int × Int × Int → Prop) : Prop :=
  (((decide (v28 < (w.length : Int))) = true → (inIdx v28 w.length ∧ (inIdx atv m.2.2.1.length ∧ (0 ≤ (w.getD (v28).toNat (0 : Int)) ∧ (w.getD (v28).toNat (0 : Int)) ≤ ((m.2.2.1.getD (atv).toNat ([] : (List Int))).length : Int)) ∧ Loop (σ := Int × Int) (fun s X => VC35_l2 m w ret23v atv v28 X1 s.1 s.2 X) (n, (0 : Int))))) ∧ ((decide (v28 < (w.length : Int))) = false → VC35_k1 K n))

def VC35 (m : (Int × (Int × ((List (List Int)) × (Int × Int))))) (w : (List Int)) (K : Int × Int → Prop) : Prop :=
  VC55 m w (fun (ret16v : Int) => (((!decide (ret16v = (0 : Int))) = true → K ((0 : Int), ret16v)) ∧ ((!decide (ret16v = (0 : Int))) = false → VC57 m (w.length : Int) (fun (ret23v : (List (List Int))) => Loop (σ := Int × Int × Int) (fun s X => VC35_l1 m w K ret23v s.1 s.2.1 s.2.2 X) ((0 : Int), m.2.2.2.1, (0 : Int))))))

set_option maxHeartbeats 4000000 in
theorem link35 (m : (Int × (Int × ((List (List Int)) × (Int × Int))))) (w : (List Int)) (K : Int × Int → Prop) (h : VC35 m w K) : ACalls Try.prog 35 [toV1 (.pr (.int .i64) (.pr (.int .i64) (.pr (.sl (.sl (.int .i64))) (.pr (.int .i64) (.int .u32))))) m, toV1 (.sl (.int .i64)) w] (fun res => ∃ y, res = (fun y => [toV1 (.int .i64) y.1, toV1 (.int .i64) y.2]) y ∧ K y) := by
  refine acalls_of_aw [(.int .i64), (.int .i64)] [.t 4, .t 5] Try.func35 rfl rfl rfl ?_
  unfold VC35 at h
  refine aw_seq ?_
  refine aw_region ?_
  refine awl_runp 3 [1, 2] [2] (ob := (True ∧ True ∧ True ∧ True)) (st' := (⟨69, [(1, [], .v (.c (.p (.sl (.int .i64)) w))), (2, [], .v (.c (.ptr 2 0)))], [(2, [], .box [.p (.int .i64) m.1, .p (.int .i64) m.2.1, .p (.sl (.sl (.int .i64))) m.2.2.1, .p (.int .i64) m.2.2.2.1, .p (.int .u32) m.2.2.2.2])]⟩ : St)) (by kernel_rfl) ⟨trivial, trivial, trivial, trivial⟩ ?_
  refine awl_nil ?_
  refine thenQ_n ?_
  refine aw_seq ?_
  refine aw_seq ?_
  refine aw_region ?_
  refine awl_runp 2 [1, 2, 14, 15] [2] (ob := (True ∧ True ∧ True)) (st' := (⟨69, [(1, [], .v (.c (.p (.sl (.int .i64)) w))), (2, [], .v (.c (.ptr 2 0))), (14, [], .v (.agg [.p (.int .i64) m.1, .p (.int .i64) m.2.1, .p (.sl (.sl (.int .i64))) m.2.2.1, .p (.int .i64) m.2.2.2.1, .p (.int .u32) m.2.2.2.2])), (15, [], .v (.c (.p (.sl (.int .i64)) w)))], [(2, [], .box [.p (.int .i64) m.1, .p (.int .i64) m.2.1, .p (.sl (.sl (.int .i64))) m.2.2.1, .p (.int .i64) m.2.2.2.1, .p (.int .u32) m.2.2.2.2])]⟩ : St)) (by kernel_rfl) ⟨trivial, trivial, trivial⟩ ?_
  refine awl_callk (p := []) (l := [toV1 (.pr (.int .i64) (.pr (.int .i64) (.pr (.sl (.sl (.int .i64))) (.pr (.int .i64) (.int .u32))))) m, toV1 (.sl (.int .i64)) w]) (cl := []) false [.d (.pr (.int .i64) (.pr (.int .i64) (.pr (.sl (.sl (.int .i64))) (.pr (.int .i64) (.int .u32))))), .d (.sl (.int .i64))] [1, 2, 16] [2] (fun (ret16v : Int) => (((!decide (ret16v = (0 : Int))) = true → K ((0 : Int), ret16v)) ∧ ((!decide (ret16v = (0 : Int))) = false → VC57 m (w.length : Int) (fun (ret23v : (List (List Int))) => Loop (σ := Int × Int × Int) (fun s X => VC35_l1 m w K ret23v s.1 s.2.1 s.2.2 X) ((0 : Int), m.2.2.2.1, (0 : Int)))))) (fun ret16v => [toV1 (.int .i64) ret16v]) (fun ret16v => (⟨69, [(1, [], .v (.c (.p (.sl (.int .i64)) w))), (2, [], .v (.c (.ptr 2 0))), (16, [], .v (.c (.p (.int .i64) ret16v)))], [(2, [], .box [.p (.int .i64) m.1, .p (.int .i64) m.2.1, .p (.sl (.sl (.int .i64))) m.2.2.1, .p (.int .i64) m.2.2.2.1, .p (.int .u32) m.2.2.2.2])]⟩ : St)) (by kernel_rfl) rfl (by kernel_rfl) rfl (by kernel_rfl) Try.call55 (by kernel_rfl) (fun ret16v => by kernel_rfl) (fun e => by cases e) (fun hg => link55 m w _ h) (fun hg => noF hg) (fun ret16v h => ?_)
  have h : (((!decide (ret16v = (0 : Int))) = true → K ((0 : Int), ret16v)) ∧ ((!decide (ret16v = (0 : Int))) = false → VC57 m (w.length : Int) (fun (ret23v : (List (List Int))) => Loop (σ := Int × Int × Int) (fun s X => VC35_l1 m w K ret23v s.1 s.2.1 s.2.2 X) ((0 : Int), m.2.2.2.1, (0 : Int))))) := h
  refine awl_runp 1 [1, 2, 6] [2] (ob := (True ∧ True)) (st' := (⟨69, [(1, [], .v (.c (.p (.sl (.int .i64)) w))), (2, [], .v (.c (.ptr 2 0))), (6, [], .v (.c (.p (.int .i64) ret16v)))], [(2, [], .box [.p (.int .i64) m.1, .p (.int .i64) m.2.1, .p (.sl (.sl (.int .i64))) m.2.2.1, .p (.int .i64) m.2.2.2.1, .p (.int .u32) m.2.2.2.2])]⟩ : St)) (by kernel_rfl) ⟨trivial, trivial⟩ ?_
  refine awl_nil ?_
  refine thenQ_n ?_
  refine aw_seq ?_
  refine aw_region ?_
  refine awl_runp 2 [1, 2, 6, 18] [2] (ob := (True ∧ True ∧ True)) (st' := (⟨69, [(1, [], .v (.c (.p (.sl (.int .i64)) w))), (2, [], .v (.c (.ptr 2 0))), (6, [], .v (.c (.p (.int .i64) ret16v))), (18, [], .v (.c (.p .bool (!decide (ret16v = (0 : Int))))))], [(2, [], .box [.p (.int .i64) m.1, .p (.int .i64) m.2.1, .p (.sl (.sl (.int .i64))) m.2.2.1, .p (.int .i64) m.2.2.2.1, .p (.int .u32) m.2.2.2.2])]⟩ : St)) (by kernel_rfl) ⟨trivial, trivial, trivial⟩ ?_
  refine awl_nil ?_
  refine thenQ_n ?_
  refine aw_cond (b := (!decide (ret16v = (0 : Int)))) (by kernel_rfl) (fun hb => ?_) (fun hb => ?_)
  · have h := h.1 hb
    refine aw_seq ?_
    refine aw_region ?_
    refine awl_runp 3 [4, 5] [] (ob := (True ∧ True ∧ True ∧ True)) (st' := (⟨69, [(4, [], .v (.c (.p (.int .i64) (0 : Int)))), (5, [], .v (.c (.p (.int .i64) ret16v)))], []⟩ : St)) (by kernel_rfl) ⟨trivial, trivial, trivial, trivial⟩ ?_
    refine awl_nil ?_
    refine thenQ_n ?_
    refine aw_ret ?_
    refine thenQ_r ?_
    exact retQ_r (σ := Int × Int) (R := (fun y => [toV1 (.int .i64) y.1, toV1 (.int .i64) y.2])) (ob := (True ∧ True ∧ True)) ((0 : Int), ret16v) (by kernel_rfl) ⟨trivial, trivial, trivial⟩ h
  · have h := h.2 hb
    refine aw_skip ?_
    refine thenQ_n ?_
    refine aw_seq ?_
    refine aw_region ?_
    refine awl_runp 3 [1, 2, 20, 22] [2] (ob := (True ∧ True ∧ True ∧ True)) (st' := (⟨69, [(1, [], .v (.c (.p (.sl (.int .i64)) w))), (2, [], .v (.c (.ptr 2 0))), (20, [], .v (.agg [.p (.int .i64) m.1, .p (.int .i64) m.2.1, .p (.sl (.sl (.int .i64))) m.2.2.1, .p (.int .i64) m.2.2.2.1, .p (.int .u32) m.2.2.2.2])), (22, [], .v (.c (.p (.int .i64) (w.length : Int))))], [(2, [], .box [.p (.int .i64) m.1, .p (.int .i64) m.2.1, .p (.sl (.sl (.int .i64))) m.2.2.1, .p (.int .i64) m.2.2.2.1, .p (.int .u32) m.2.2.2.2])]⟩ : St)) (by kernel_rfl) ⟨trivial, trivial, trivial, trivial⟩ ?_
    refine awl_callk (p := []) (l := [toV1 (.pr (.int .i64) (.pr (.int .i64) (.pr (.sl (.sl (.int .i64))) (.pr (.int .i64) (.int .u32))))) m, toV1 (.int .i64) (w.length : Int)]) (cl := []) false [.d (.pr (.int .i64) (.pr (.int .i64) (.pr (.sl (.sl (.int .i64))) (.pr (.int .i64) (.int .u32))))), .d (.int .i64)] [1, 2, 23] [2] (fun (ret23v : (List (List Int))) => Loop (σ := Int × Int × Int) (fun s X => VC35_l1 m w K ret23v s.1 s.2.1 s.2.2 X) ((0 : Int), m.2.2.2.1, (0 : Int))) (fun ret23v => [toV1 (.sl (.sl (.int .i64))) ret23v]) (fun ret23v => (⟨69, [(1, [], .v (.c (.p (.sl (.int .i64)) w))), (2, [], .v (.c (.ptr 2 0))), (23, [], .v (.c (.p (.sl (.sl (.int .i64))) ret23v)))], [(2, [], .box [.p (.int .i64) m.1, .p (.int .i64) m.2.1, .p (.sl (.sl (.int .i64))) m.2.2.1, .p (.int .i64) m.2.2.2.1, .p (.int .u32) m.2.2.2.2])]⟩ : St)) (by kernel_rfl) rfl (by kernel_rfl) rfl (by kernel_rfl) Try.call57 (by kernel_rfl) (fun ret23v => by kernel_rfl) (fun e => by cases e) (fun hg => link57 m (w.length : Int) _ h) (fun hg => noF hg) (fun ret23v h => ?_)
    have h : Loop (σ := Int × Int × Int) (fun s X => VC35_l1 m w K ret23v s.1 s.2.1 s.2.2 X) ((0 : Int), m.2.2.2.1, (0 : Int)) := h
    refine awl_runp 1 [1, 2, 7] [2] (ob := (True ∧ True)) (st' := (⟨69, [(1, [], .v (.c (.p (.sl (.int .i64)) w))), (2, [], .v (.c (.ptr 2 0))), (7, [], .v (.c (.p (.sl (.sl (.int .i64))) ret23v)))], [(2, [], .box [.p (.int .i64) m.1, .p (.int .i64) m.2.1, .p (.sl (.sl (.int .i64))) m.2.2.1, .p (.int .i64) m.2.2.2.1, .p (.int .u32) m.2.2.2.2])]⟩ : St)) (by kernel_rfl) ⟨trivial, trivial⟩ ?_
    refine awl_nil ?_
    refine thenQ_n ?_
    refine aw_seq ?_
    refine aw_region ?_
    refine awl_runp 1 [1, 2, 7, 8] [2] (ob := (True ∧ True)) (st' := (⟨69, [(1, [], .v (.c (.p (.sl (.int .i64)) w))), (2, [], .v (.c (.ptr 2 0))), (7, [], .v (.c (.p (.sl (.sl (.int .i64))) ret23v))), (8, [], .v (.c (.p (.int .i64) (0 : Int))))], [(2, [], .box [.p (.int .i64) m.1, .p (.int .i64) m.2.1, .p (.sl (.sl (.int .i64))) m.2.2.1, .p (.int .i64) m.2.2.2.1, .p (.int .u32) m.2.2.2.2])]⟩ : St)) (by kernel_rfl) ⟨trivial, trivial⟩ ?_
    refine awl_nil ?_
    refine thenQ_n ?_
    refine aw_seq ?_
    refine aw_region ?_
    refine awl_runp 3 [1, 2, 7, 8, 9] [2] (ob := (True ∧ True ∧ True ∧ True)) (st' := (⟨69, [(1, [], .v (.c (.p (.sl (.int .i64)) w))), (2, [], .v (.c (.ptr 2 0))), (7, [], .v (.c (.p (.sl (.sl (.int .i64))) ret23v))), (8, [], .v (.c (.p (.int .i64) (0 : Int)))), (9, [], .v (.c (.p (.int .i64) m.2.2.2.1)))], [(2, [], .box [.p (.int .i64) m.1, .p (.int .i64) m.2.1, .p (.sl (.sl (.int .i64))) m.2.2.1, .p (.int .i64) m.2.2.2.1, .p (.int .u32) m.2.2.2.2])]⟩ : St)) (by kernel_rfl) ⟨trivial, trivial, trivial, trivial⟩ ?_
    refine awl_nil ?_
    refine thenQ_n ?_
    refine aw_seq ?_
    refine aw_seq ?_
    refine aw_region ?_
    refine awl_runp 3 [1, 2, 7, 8, 9, 26, 27, 28] [2] (ob := (True ∧ True ∧ True ∧ True)) (st' := (⟨69, [(1, [], .v (.c (.p (.sl (.int .i64)) w))), (2, [], .v (.c (.ptr 2 0))), (7, [], .v (.c (.p (.sl (.sl (.int .i64))) ret23v))), (8, [], .v (.c (.p (.int .i64) (0 : Int)))), (9, [], .v (.c (.p (.int .i64) m.2.2.2.1))), (26, [], .v (.c (.p (.sl (.int .i64)) w))), (27, [], .v (.c (.p (.int .i64) (w.length : Int)))), (28, [], .v (.c (.p (.int .i64) (0 : Int))))], [(2, [], .box [.p (.int .i64) m.1, .p (.int .i64) m.2.1, .p (.sl (.sl (.int .i64))) m.2.2.1, .p (.int .i64) m.2.2.2.1, .p (.int .u32) m.2.2.2.2])]⟩ : St)) (by kernel_rfl) ⟨trivial, trivial, trivial, trivial⟩ ?_
    refine awl_nil ?_
    refine thenQ_n ?_
    refine withJoin (σ := Int) (fun s => (⟨69, [(8, [], .v (.c (.p (.int .i64) s)))], []⟩ : St)) (fun s => VC35_k1 K s) (fun n h => ?_) (fun rest1 => ?_)
    · have h : VC35_k1 K n := h
      unfold VC35_k1 at h
      refine thenQ_n ?_
      refine aw_seq ?_
      refine aw_region ?_
      refine awl_runp 3 [4, 5] [] (ob := (True ∧ True ∧ True ∧ True)) (st' := (⟨69, [(4, [], .v (.c (.p (.int .i64) n))), (5, [], .v (.c (.p (.int .i64) (0 : Int))))], []⟩ : St)) (by kernel_rfl) ⟨trivial, trivial, trivial, trivial⟩ ?_
      refine awl_nil ?_
      refine thenQ_n ?_
      refine aw_ret ?_
      exact retQ_r (σ := Int × Int) (R := (fun y => [toV1 (.int .i64) y.1, toV1 (.int .i64) y.2])) (ob := (True ∧ True ∧ True)) (n, (0 : Int)) (by kernel_rfl) ⟨trivial, trivial, trivial⟩ h
    · refine aw_block ?_
      refine aw_loop (σ := Int × Int × Int) (fun s => (⟨69, [(1, [], .v (.c (.p (.sl (.int .i64)) w))), (2, [], .v (.c (.ptr 2 0))), (7, [], .v (.c (.p (.sl (.sl (.int .i64))) ret23v))), (8, [], .v (.c (.p (.int .i64) s.1))), (9, [], .v (.c (.p (.int .i64) s.2.1))), (26, [], .v (.c (.p (.sl (.int .i64)) w))), (27, [], .v (.c (.p (.int .i64) (w.length : Int)))), (28, [], .v (.c (.p (.int .i64) s.2.2)))], [(2, [], .box [.p (.int .i64) m.1, .p (.int .i64) m.2.1, .p (.sl (.sl (.int .i64))) m.2.2.1, .p (.int .i64) m.2.2.2.1, .p (.int .u32) m.2.2.2.2])]⟩ : St)) (fun s X => VC35_l1 m w K ret23v s.1 s.2.1 s.2.2 X) (s0 := ((0 : Int), m.2.2.2.1, (0 : Int))) (fun s X1 h => ?_) h
      obtain ⟨n, atv, v28⟩ := s
      have h : VC35_l1 m w K ret23v n atv v28 X1 := h
      unfold VC35_l1 at h
      refine aw_seq ?_
      refine aw_region ?_
      refine awl_runp 1 [1, 2, 7, 8, 9, 26, 27, 28, 29] [2] (ob := (True ∧ True)) (st' := (⟨69, [(1, [], .v (.c (.p (.sl (.int .i64)) w))), (2, [], .v (.c (.ptr 2 0))), (7, [], .v (.c (.p (.sl (.sl (.int .i64))) ret23v))), (8, [], .v (.c (.p (.int .i64) n))), (9, [], .v (.c (.p (.int .i64) atv))), (26, [], .v (.c (.p (.sl (.int .i64)) w))), (27, [], .v (.c (.p (.int .i64) (w.length : Int)))), (28, [], .v (.c (.p (.int .i64) v28))), (29, [], .v (.c (.p .bool (decide (v28 < (w.length : Int))))))], [(2, [], .box [.p (.int .i64) m.1, .p (.int .i64) m.2.1, .p (.sl (.sl (.int .i64))) m.2.2.1, .p (.int .i64) m.2.2.2.1, .p (.int .u32) m.2.2.2.2])]⟩ : St)) (by kernel_rfl) ⟨trivial, trivial⟩ ?_
      refine awl_nil ?_
      refine thenQ_n ?_
      refine aw_seq ?_
      refine aw_cond (b := (decide (v28 < (w.length : Int)))) (by kernel_rfl) (fun hb => ?_) (fun hb => ?_)
      · have h := h.1 hb
        refine aw_skip ?_
        refine thenQ_n ?_
        refine aw_seq ?_
        refine aw_block ?_
        refine aw_seq ?_
        refine aw_region ?_
        obtain ⟨o1, h⟩ := h
        refine awl_runp 5 [1, 2, 7, 8, 9, 10, 11, 26, 27, 28] [2] (ob := (True ∧ inIdx v28 w.length ∧ True ∧ True ∧ True ∧ True)) (st' := (⟨69, [(1, [], .v (.c (.p (.sl (.int .i64)) w))), (2, [], .v (.c (.ptr 2 0))), (7, [], .v (.c (.p (.sl (.sl (.int .i64))) ret23v))), (8, [], .v (.c (.p (.int .i64) n))), (9, [], .v (.c (.p (.int .i64) atv))), (10, [], .v (.c (.p (.int .i64) v28))), (11, [], .v (.c (.p (.int .i64) (w.getD (v28).toNat (0 : Int))))), (26, [], .v (.c (.p (.sl (.int .i64)) w))), (27, [], .v (.c (.p (.int .i64) (w.length : Int)))), (28, [], .v (.c (.p (.int .i64) v28)))], [(2, [], .box [.p (.int .i64) m.1, .p (.int .i64) m.2.1, .p (.sl (.sl (.int .i64))) m.2.2.1, .p (.int .i64) m.2.2.2.1, .p (.int .u32) m.2.2.2.2])]⟩ : St)) (by kernel_rfl) ⟨trivial, o1, trivial, trivial, trivial, trivial⟩ ?_
        refine awl_nil ?_
        refine thenQ_n ?_
        refine aw_seq ?_
        refine aw_seq ?_
        refine aw_region ?_
        obtain ⟨o1, o2, h⟩ := h
        refine awl_runp 9 [1, 2, 7, 8, 9, 10, 11, 26, 27, 28, 39, 40, 41] [2] (ob := (True ∧ True ∧ True ∧ inIdx atv m.2.2.1.length ∧ True ∧ True ∧ (0 ≤ (w.getD (v28).toNat (0 : Int)) ∧ (w.getD (v28).toNat (0 : Int)) ≤ ((m.2.2.1.getD (atv).toNat ([] : (List Int))).length : Int)) ∧ True ∧ True ∧ True)) (st' := (⟨69, [(1, [], .v (.c (.p (.sl (.int .i64)) w))), (2, [], .v (.c (.ptr 2 0))), (7, [], .v (.c (.p (.sl (.sl (.int .i64))) ret23v))), (8, [], .v (.c (.p (.int .i64) n))), (9, [], .v (.c (.p (.int .i64) atv))), (10, [], .v (.c (.p (.int .i64) v28))), (11, [], .v (.c (.p (.int .i64) (w.getD (v28).toNat (0 : Int))))), (26, [], .v (.c (.p (.sl (.int .i64)) w))), (27, [], .v (.c (.p (.int .i64) (w.length : Int)))), (28, [], .v (.c (.p (.int .i64) v28))), (39, [], .v (.c (.p (.sl (.int .i64)) ((m.2.2.1.getD (atv).toNat ([] : (List Int))).take ((w.getD (v28).toNat (0 : Int))).toNat)))), (40, [], .v (.c (.p (.int .i64) (((m.2.2.1.getD (atv).toNat ([] : (List Int))).take ((w.getD (v28).toNat (0 : Int))).toNat).length : Int)))), (41, [], .v (.c (.p (.int .i64) (0 : Int))))], [(2, [], .box [.p (.int .i64) m.1, .p (.int .i64) m.2.1, .p (.sl (.sl (.int .i64))) m.2.2.1, .p (.int .i64) m.2.2.2.1, .p (.int .u32) m.2.2.2.2])]⟩ : St)) (by kernel_rfl) ⟨trivial, trivial, trivial, o1, trivial, trivial, o2, trivial, trivial, trivial⟩ ?_
        refine awl_nil ?_
        refine thenQ_n ?_
        refine withJoin (σ := Int) (fun s => (⟨69, [(1, [], .v (.c (.p (.sl (.int .i64)) w))), (2, [], .v (.c (.ptr 2 0))), (7, [], .v (.c (.p (.sl (.sl (.int .i64))) ret23v))), (8, [], .v (.c (.p (.int .i64) s))), (9, [], .v (.c (.p (.int .i64) atv))), (11, [], .v (.c (.p (.int .i64) (w.getD (v28).toNat (0 : Int))))), (26, [], .v (.c (.p (.sl (.int .i64)) w))), (27, [], .v (.c (.p (.int .i64) (w.length : Int)))), (28, [], .v (.c (.p (.int .i64) v28)))], [(2, [], .box [.p (.int .i64) m.1, .p (.int .i64) m.2.1, .p (.sl (.sl (.int .i64))) m.2.2.1, .p (.int .i64) m.2.2.2.1, .p (.int .u32) m.2.2.2.2])]⟩ : St)) (fun s => VC35_k2 m w atv v28 X1 s) (fun n2 h => ?_) (fun rest2 => ?_)
        · have h : VC35_k2 m w atv v28 X1 n2 := h
          unfold VC35_k2 at h
          refine thenQ_n ?_
          refine aw_region ?_
          obtain ⟨o1, o2, h⟩ := h
          refine awl_runp 9 [1, 2, 7, 8, 9, 26, 27, 28] [2] (ob := (True ∧ True ∧ True ∧ inIdx atv m.2.2.1.length ∧ True ∧ True ∧ inIdx (w.getD (v28).toNat (0 : Int)) (m.2.2.1.getD (atv).toNat ([] : (List Int))).length ∧ True ∧ True ∧ True)) (st' := (⟨69, [(1, [], .v (.c (.p (.sl (.int .i64)) w))), (2, [], .v (.c (.ptr 2 0))), (7, [], .v (.c (.p (.sl (.sl (.int .i64))) ret23v))), (8, [], .v (.c (.p (.int .i64) n2))), (9, [], .v (.c (.p (.int .i64) ((m.2.2.1.getD (atv).toNat ([] : (List Int))).getD ((w.getD (v28).toNat (0 : Int))).toNat (0 : Int))))), (26, [], .v (.c (.p (.sl (.int .i64)) w))), (27, [], .v (.c (.p (.int .i64) (w.length : Int)))), (28, [], .v (.c (.p (.int .i64) v28)))], [(2, [], .box [.p (.int .i64) m.1, .p (.int .i64) m.2.1, .p (.sl (.sl (.int .i64))) m.2.2.1, .p (.int .i64) m.2.2.2.1, .p (.int .u32) m.2.2.2.2])]⟩ : St)) (by kernel_rfl) ⟨trivial, trivial, trivial, o1, trivial, trivial, o2, trivial, trivial, trivial⟩ ?_
          refine awl_nil ?_
          refine blockQ_n ?_
          refine thenQ_n ?_
          refine aw_region ?_
          obtain ⟨o1, h⟩ := h
          refine awl_runp 2 [1, 2, 7, 8, 9, 26, 27, 28] [2] (ob := (InR (v28 + (1 : Int)) ∧ True ∧ True)) (st' := (⟨69, [(1, [], .v (.c (.p (.sl (.int .i64)) w))), (2, [], .v (.c (.ptr 2 0))), (7, [], .v (.c (.p (.sl (.sl (.int .i64))) ret23v))), (8, [], .v (.c (.p (.int .i64) n2))), (9, [], .v (.c (.p (.int .i64) ((m.2.2.1.getD (atv).toNat ([] : (List Int))).getD ((w.getD (v28).toNat (0 : Int))).toNat (0 : Int))))), (26, [], .v (.c (.p (.sl (.int .i64)) w))), (27, [], .v (.c (.p (.int .i64) (w.length : Int)))), (28, [], .v (.c (.p (.int .i64) (v28 + (1 : Int)))))], [(2, [], .box [.p (.int .i64) m.1, .p (.int .i64) m.2.1, .p (.sl (.sl (.int .i64))) m.2.2.1, .p (.int .i64) m.2.2.2.1, .p (.int .u32) m.2.2.2.2])]⟩ : St)) (by kernel_rfl) ⟨o1, trivial, trivial⟩ ?_
          refine awl_nil ?_
          exact thenQ_n ⟨(n2, ((m.2.2.1.getD (atv).toNat ([] : (List Int))).getD ((w.getD (v28).toNat (0 : Int))).toNat (0 : Int)), (v28 + (1 : Int))), rfl, h⟩
        · refine aw_block ?_
          refine aw_loop (σ := Int × Int) (fun s => (⟨69, [(1, [], .v (.c (.p (.sl (.int .i64)) w))), (2, [], .v (.c (.ptr 2 0))), (7, [], .v (.c (.p (.sl (.sl (.int .i64))) ret23v))), (8, [], .v (.c (.p (.int .i64) s.1))), (9, [], .v (.c (.p (.int .i64) atv))), (10, [], .v (.c (.p (.int .i64) v28))), (11, [], .v (.c (.p (.int .i64) (w.getD (v28).toNat (0 : Int))))), (26, [], .v (.c (.p (.sl (.int .i64)) w))), (27, [], .v (.c (.p (.int .i64) (w.length : Int)))), (28, [], .v (.c (.p (.int .i64) v28))), (39, [], .v (.c (.p (.sl (.int .i64)) ((m.2.2.1.getD (atv).toNat ([] : (List Int))).take ((w.getD (v28).toNat (0 : Int))).toNat)))), (40, [], .v (.c (.p (.int .i64) (((m.2.2.1.getD (atv).toNat ([] : (List Int))).take ((w.getD (v28).toNat (0 : Int))).toNat).length : Int)))), (41, [], .v (.c (.p (.int .i64) s.2)))], [(2, [], .box [.p (.int .i64) m.1, .p (.int .i64) m.2.1, .p (.sl (.sl (.int .i64))) m.2.2.1, .p (.int .i64) m.2.2.2.1, .p (.int .u32) m.2.2.2.2])]⟩ : St)) (fun s X => VC35_l2 m w ret23v atv v28 X1 s.1 s.2 X) (s0 := (n, (0 : Int))) (fun s X2 h => ?_) h
          obtain ⟨n2, v41⟩ := s
          have h : VC35_l2 m w ret23v atv v28 X1 n2 v41 X2 := h
          unfold VC35_l2 at h
          refine aw_seq ?_
          refine aw_region ?_
          refine awl_runp 1 [1, 2, 7, 8, 9, 10, 11, 26, 27, 28, 39, 40, 41, 42] [2] (ob := (True ∧ True)) (st' := (⟨69, [(1, [], .v (.c (.p (.sl (.int .i64)) w))), (2, [], .v (.c (.ptr 2 0))), (7, [], .v (.c (.p (.sl (.sl (.int .i64))) ret23v))), (8, [], .v (.c (.p (.int .i64) n2))), (9, [], .v (.c (.p (.int .i64) atv))), (10, [], .v (.c (.p (.int .i64) v28))), (11, [], .v (.c (.p (.int .i64) (w.getD (v28).toNat (0 : Int))))), (26, [], .v (.c (.p (.sl (.int .i64)) w))), (27, [], .v (.c (.p (.int .i64) (w.length : Int)))), (28, [], .v (.c (.p (.int .i64) v28))), (39, [], .v (.c (.p (.sl (.int .i64)) ((m.2.2.1.getD (atv).toNat ([] : (List Int))).take ((w.getD (v28).toNat (0 : Int))).toNat)))), (40, [], .v (.c (.p (.int .i64) (((m.2.2.1.getD (atv).toNat ([] : (List Int))).take ((w.getD (v28).toNat (0 : Int))).toNat).length : Int)))), (41, [], .v (.c (.p (.int .i64) v41))), (42, [], .v (.c (.p .bool (decide (v41 < (((m.2.2.1.getD (atv).toNat ([] : (List Int))).take ((w.getD (v28).toNat (0 : Int))).toNat).length : Int))))))], [(2, [], .box [.p (.int .i64) m.1, .p (.int .i64) m.2.1, .p (.sl (.sl (.int .i64))) m.2.2.1, .p (.int .i64) m.2.2.2.1, .p (.int .u32) m.2.2.2.2])]⟩ : St)) (by kernel_rfl) ⟨trivial, trivial⟩ ?_
          refine awl_nil ?_
          refine thenQ_n ?_
          refine aw_seq ?_
          refine aw_cond (b := (decide (v41 < (((m.2.2.1.getD (atv).toNat ([] : (List Int))).take ((w.getD (v28).toNat (0 : Int))).toNat).length : Int)))) (by kernel_rfl) (fun hb => ?_) (fun hb => ?_)
          · have h := h.1 hb
            refine aw_skip ?_
            refine thenQ_n ?_
            refine aw_seq ?_
            refine aw_block ?_
            refine aw_seq ?_
            refine aw_region ?_
            obtain ⟨o1, h⟩ := h
            refine awl_runp 3 [1, 2, 7, 8, 9, 10, 11, 13, 26, 27, 28, 39, 40, 41] [2] (ob := (inIdx v41 ((m.2.2.1.getD (atv).toNat ([] : (List Int))).take ((w.getD (v28).toNat (0 : Int))).toNat).length ∧ True ∧ True ∧ True)) (st' := (⟨69, [(1, [], .v (.c (.p (.sl (.int .i64)) w))), (2, [], .v (.c (.ptr 2 0))), (7, [], .v (.c (.p (.sl (.sl (.int .i64))) ret23v))), (8, [], .v (.c (.p (.int .i64) n2))), (9, [], .v (.c (.p (.int .i64) atv))), (10, [], .v (.c (.p (.int .i64) v28))), (11, [], .v (.c (.p (.int .i64) (w.getD (v28).toNat (0 : Int))))), (13, [], .v (.c (.p (.int .i64) (((m.2.2.1.getD (atv).toNat ([] : (List Int))).take ((w.getD (v28).toNat (0 : Int))).toNat).getD (v41).toNat (0 : Int))))), (26, [], .v (.c (.p (.sl (.int .i64)) w))), (27, [], .v (.c (.p (.int .i64) (w.length : Int)))), (28, [], .v (.c (.p (.int .i64) v28))), (39, [], .v (.c (.p (.sl (.int .i64)) ((m.2.2.1.getD (atv).toNat ([] : (List Int))).take ((w.getD (v28).toNat (0 : Int))).toNat)))), (40, [], .v (.c (.p (.int .i64) (((m.2.2.1.getD (atv).toNat ([] : (List Int))).take ((w.getD (v28).toNat (0 : Int))).toNat).length : Int)))), (41, [], .v (.c (.p (.int .i64) v41)))], [(2, [], .box [.p (.int .i64) m.1, .p (.int .i64) m.2.1, .p (.sl (.sl (.int .i64))) m.2.2.1, .p (.int .i64) m.2.2.2.1, .p (.int .u32) m.2.2.2.2])]⟩ : St)) (by kernel_rfl) ⟨o1, trivial, trivial, trivial⟩ ?_
            refine awl_nil ?_
            refine thenQ_n ?_
            refine aw_region ?_
            obtain ⟨o1, o2, o3, o4, o5, h⟩ := h
            refine awl_runp 14 [1, 2, 7, 8, 9, 10, 11, 26, 27, 28, 39, 40, 41] [2] (ob := (True ∧ True ∧ True ∧ True ∧ InR ((w.length : Int) - (1 : Int)) ∧ True ∧ InR (((w.length : Int) - (1 : Int)) - v28) ∧ inIdx (((w.length : Int) - (1 : Int)) - v28) ret23v.length ∧ True ∧ True ∧ inIdx (((m.2.2.1.getD (atv).toNat ([] : (List Int))).take ((w.getD (v28).toNat (0 : Int))).toNat).getD (v41).toNat (0 : Int)) (ret23v.getD ((((w.length : Int) - (1 : Int)) - v28)).toNat ([] : (List Int))).length ∧ True ∧ InR (n2 + ((ret23v.getD ((((w.length : Int) - (1 : Int)) - v28)).toNat ([] : (List Int))).getD ((((m.2.2.1.getD (atv).toNat ([] : (List Int))).take ((w.getD (v28).toNat (0 : Int))).toNat).getD (v41).toNat (0 : Int))).toNat (0 : Int))) ∧ True ∧ True)) (st' := (⟨69, [(1, [], .v (.c (.p (.sl (.int .i64)) w))), (2, [], .v (.c (.ptr 2 0))), (7, [], .v (.c (.p (.sl (.sl (.int .i64))) ret23v))), (8, [], .v (.c (.p (.int .i64) (n2 + ((ret23v.getD ((((w.length : Int) - (1 : Int)) - v28)).toNat ([] : (List Int))).getD ((((m.2.2.1.getD (atv).toNat ([] : (List Int))).take ((w.getD (v28).toNat (0 : Int))).toNat).getD (v41).toNat (0 : Int))).toNat (0 : Int)))))), (9, [], .v (.c (.p (.int .i64) atv))), (10, [], .v (.c (.p (.int .i64) v28))), (11, [], .v (.c (.p (.int .i64) (w.getD (v28).toNat (0 : Int))))), (26, [], .v (.c (.p (.sl (.int .i64)) w))), (27, [], .v (.c (.p (.int .i64) (w.length : Int)))), (28, [], .v (.c (.p (.int .i64) v28))), (39, [], .v (.c (.p (.sl (.int .i64)) ((m.2.2.1.getD (atv).toNat ([] : (List Int))).take ((w.getD (v28).toNat (0 : Int))).toNat)))), (40, [], .v (.c (.p (.int .i64) (((m.2.2.1.getD (atv).toNat ([] : (List Int))).take ((w.getD (v28).toNat (0 : Int))).toNat).length : Int)))), (41, [], .v (.c (.p (.int .i64) v41)))], [(2, [], .box [.p (.int .i64) m.1, .p (.int .i64) m.2.1, .p (.sl (.sl (.int .i64))) m.2.2.1, .p (.int .i64) m.2.2.2.1, .p (.int .u32) m.2.2.2.2])]⟩ : St)) (by kernel_rfl) ⟨trivial, trivial, trivial, trivial, o1, trivial, o2, o3, trivial, trivial, o4, trivial, o5, trivial, trivial⟩ ?_
            refine awl_nil ?_
            refine blockQ_n ?_
            refine thenQ_n ?_
            refine aw_region ?_
            obtain ⟨o1, h⟩ := h
            refine awl_runp 2 [1, 2, 7, 8, 9, 10, 11, 26, 27, 28, 39, 40, 41] [2] (ob := (InR (v41 + (1 : Int)) ∧ True ∧ True)) (st' := (⟨69, [(1, [], .v (.c (.p (.sl (.int .i64)) w))), (2, [], .v (.c (.ptr 2 0))), (7, [], .v (.c (.p (.sl (.sl (.int .i64))) ret23v))), (8, [], .v (.c (.p (.int .i64) (n2 + ((ret23v.getD ((((w.length : Int) - (1 : Int)) - v28)).toNat ([] : (List Int))).getD ((((m.2.2.1.getD (atv).toNat ([] : (List Int))).take ((w.getD (v28).toNat (0 : Int))).toNat).getD (v41).toNat (0 : Int))).toNat (0 : Int)))))), (9, [], .v (.c (.p (.int .i64) atv))), (10, [], .v (.c (.p (.int .i64) v28))), (11, [], .v (.c (.p (.int .i64) (w.getD (v28).toNat (0 : Int))))), (26, [], .v (.c (.p (.sl (.int .i64)) w))), (27, [], .v (.c (.p (.int .i64) (w.length : Int)))), (28, [], .v (.c (.p (.int .i64) v28))), (39, [], .v (.c (.p (.sl (.int .i64)) ((m.2.2.1.getD (atv).toNat ([] : (List Int))).take ((w.getD (v28).toNat (0 : Int))).toNat)))), (40, [], .v (.c (.p (.int .i64) (((m.2.2.1.getD (atv).toNat ([] : (List Int))).take ((w.getD (v28).toNat (0 : Int))).toNat).length : Int)))), (41, [], .v (.c (.p (.int .i64) (v41 + (1 : Int)))))], [(2, [], .box [.p (.int .i64) m.1, .p (.int .i64) m.2.1, .p (.sl (.sl (.int .i64))) m.2.2.1, .p (.int .i64) m.2.2.2.1, .p (.int .u32) m.2.2.2.2])]⟩ : St)) (by kernel_rfl) ⟨o1, trivial, trivial⟩ ?_
            refine awl_nil ?_
            exact thenQ_n ⟨((n2 + ((ret23v.getD ((((w.length : Int) - (1 : Int)) - v28)).toNat ([] : (List Int))).getD ((((m.2.2.1.getD (atv).toNat ([] : (List Int))).take ((w.getD (v28).toNat (0 : Int))).toNat).getD (v41).toNat (0 : Int))).toNat (0 : Int))), (v41 + (1 : Int))), rfl, h⟩
          · have h := h.2 hb
            refine aw_conv [.prune [1, 2, 7, 8, 9, 11, 26, 27, 28] [2]] (st' := (⟨69, [(1, [], .v (.c (.p (.sl (.int .i64)) w))), (2, [], .v (.c (.ptr 2 0))), (7, [], .v (.c (.p (.sl (.sl (.int .i64))) ret23v))), (8, [], .v (.c (.p (.int .i64) n2))), (9, [], .v (.c (.p (.int .i64) atv))), (11, [], .v (.c (.p (.int .i64) (w.getD (v28).toNat (0 : Int))))), (26, [], .v (.c (.p (.sl (.int .i64)) w))), (27, [], .v (.c (.p (.int .i64) (w.length : Int)))), (28, [], .v (.c (.p (.int .i64) v28)))], [(2, [], .box [.p (.int .i64) m.1, .p (.int .i64) m.2.1, .p (.sl (.sl (.int .i64))) m.2.2.1, .p (.int .i64) m.2.2.2.1, .p (.int .u32) m.2.2.2.2])]⟩ : St)) (by kernel_rfl) ?_
            refine aw_exit ?_
            refine thenQ_x ?_
            refine thenQ_x ?_
            refine blockQ_hit ?_
            exact rest2 n2 h
      · have h := h.2 hb
        refine aw_conv [.prune [8] []] (st' := (⟨69, [(8, [], .v (.c (.p (.int .i64) n)))], []⟩ : St)) (by kernel_rfl) ?_
        refine aw_exit ?_
        refine thenQ_x ?_
        refine thenQ_x ?_
        refine blockQ_hit ?_
        exact rest1 n h

end Dec
