/-
  Printed by dec2.py: of each function its plain demand, and that the demand gives the contract.
-/
import Derived.Test.YtfpchbpnoggogaaGenGa
set_option linter.unusedVariables false
set_option linter.unusedSimpArgs false
set_option maxRecDepth 100000
namespace Dec
open Go Go.RowKit Go.Proofs

-- coppicer/machine.within
def VC106 (n : Int) (low : Int) (high : Int) (K : Bool → Prop) : Prop :=
  K ((decide (low ≤ n)) && (decide (n ≤ high)))

set_option maxHeartbeats 4000000 in
theorem link106 (n : Int) (low : Int) (high : Int) (K : Bool → Prop) (h : VC106 n low high K) : ACalls Try.prog 106 [toV1 (.int .i64) n, toV1 (.int .i64) low, toV1 (.int .i64) high] (fun res => ∃ y, res = (fun y => [toV1 .bool y]) y ∧ K y) := by
  refine acalls_of_aw [.bool] [.t 6] Try.func106 rfl rfl rfl ?_
  unfold VC106 at h
  refine aw_seq ?_
  refine aw_region ?_
  refine awl_runp 1 [0, 1, 2] [] (ob := (True ∧ True)) (st' := (⟨15, [(0, [], .v (.c (.p (.int .i64) n))), (1, [], .v (.c (.p (.int .i64) low))), (2, [], .v (.c (.p (.int .i64) high)))], []⟩ : St)) (by kernel_rfl) ⟨trivial, trivial⟩ ?_
  refine awl_nil ?_
  refine thenQ_n ?_
  refine aw_seq ?_
  refine aw_region ?_
  refine awl_runp 9 [6] [] (ob := (True ∧ True ∧ True ∧ True ∧ ((decide (low ≤ n)) = true → True) ∧ ((decide (low ≤ n)) = true → True) ∧ ((decide (low ≤ n)) = true → True) ∧ True ∧ True ∧ True)) (st' := (⟨15, [(6, [], .v (.c (.p .bool ((decide (low ≤ n)) && (decide (n ≤ high))))))], []⟩ : St)) (by kernel_rfl) ⟨trivial, trivial, trivial, trivial, (fun _ => trivial), (fun _ => trivial), (fun _ => trivial), trivial, trivial, trivial⟩ ?_
  refine awl_nil ?_
  refine thenQ_n ?_
  refine aw_ret ?_
  exact retQ_r (σ := Bool) (R := (fun y => [toV1 .bool y])) (ob := (True ∧ True)) ((decide (low ≤ n)) && (decide (n ≤ high))) (by kernel_rfl) ⟨trivial, trivial⟩ h

-- coppicer/machine.Word$1
def VC105 (sv : Int) (a1 : Int) (K : Bool → Prop) : Prop :=
  (InR (a1 - (1 : Int)) ∧ VC106 sv (0 : Int) (a1 - (1 : Int)) (fun (ret7v : Bool) => K (!ret7v)))

set_option maxHeartbeats 4000000 in
theorem link105 (sv : Int) (a1 : Int) (K : Bool → Prop) (h : VC105 sv a1 K) : ACalls Try.prog 105 [toV1 (.int .i64) sv, .c (.ad (.int .i64) a1)] (fun res => ∃ y, res = (fun y => [toV1 .bool y]) y ∧ K y) := by
  refine acalls_of_aw [.bool] [.t 3] Try.func105 rfl rfl rfl ?_
  unfold VC105 at h
  refine aw_seq ?_
  refine aw_region ?_
  refine awl_runp 1 [0, 1] [] (ob := (True ∧ True)) (st' := (⟨9, [(0, [], .v (.c (.p (.int .i64) sv))), (1, [], .v (.c (.ad (.int .i64) a1)))], []⟩ : St)) (by kernel_rfl) ⟨trivial, trivial⟩ ?_
  refine awl_nil ?_
  refine thenQ_n ?_
  refine aw_seq ?_
  refine aw_region ?_
  obtain ⟨o1, h⟩ := h
  refine awl_runp 3 [4, 6] [] (ob := (True ∧ True ∧ InR (a1 - (1 : Int)) ∧ True)) (st' := (⟨9, [(4, [], .v (.c (.p (.int .i64) sv))), (6, [], .v (.c (.p (.int .i64) (a1 - (1 : Int)))))], []⟩ : St)) (by kernel_rfl) ⟨trivial, trivial, o1, trivial⟩ ?_
  refine awl_callk (p := []) (l := [toV1 (.int .i64) sv, toV1 (.int .i64) (0 : Int), toV1 (.int .i64) (a1 - (1 : Int))]) (cl := []) false [.d (.int .i64), .d (.int .i64), .d (.int .i64)] [7] [] (fun (ret7v : Bool) => K (!ret7v)) (fun ret7v => [toV1 .bool ret7v]) (fun ret7v => (⟨9, [(7, [], .v (.c (.p .bool ret7v)))], []⟩ : St)) (by kernel_rfl) rfl (by kernel_rfl) rfl (by kernel_rfl) Try.call106 (by kernel_rfl) (fun ret7v => by kernel_rfl) (fun e => by cases e) (fun hg => link106 sv (0 : Int) (a1 - (1 : Int)) _ h) (fun hg => noF hg) (fun ret7v h => ?_)
  have h : K (!ret7v) := h
  refine awl_runp 2 [3] [] (ob := (True ∧ True ∧ True)) (st' := (⟨9, [(3, [], .v (.c (.p .bool (!ret7v))))], []⟩ : St)) (by kernel_rfl) ⟨trivial, trivial, trivial⟩ ?_
  refine awl_nil ?_
  refine thenQ_n ?_
  refine aw_ret ?_
  exact retQ_r (σ := Bool) (R := (fun y => [toV1 .bool y])) (ob := (True ∧ True)) (!ret7v) (by kernel_rfl) ⟨trivial, trivial⟩ h

-- coppicer/machine.Word
def VC75 (k : Int) (w : (List Int)) (K : Int → Prop) : Prop :=
  (((decide ((12 : Int) < (w.length : Int))) = true → K (1 : Int)) ∧ ((decide ((12 : Int) < (w.length : Int))) = false → VC59 w (fun (x : Int) (K : Bool → Prop) => VC105 x k K) (fun (ret10v : Bool) => ((ret10v = true → K (2 : Int)) ∧ (ret10v = false → K (0 : Int))))))

set_option maxHeartbeats 4000000 in
theorem link75 (k : Int) (w : (List Int)) (K : Int → Prop) (h : VC75 k w K) : ACalls Try.prog 75 [toV1 (.int .i64) k, toV1 (.sl (.int .i64)) w] (fun res => ∃ y, res = (fun y => [toV1 (.int .i64) y]) y ∧ K y) := by
  refine acalls_of_aw [(.int .i64)] [.t 4] Try.func75 rfl rfl rfl ?_
  unfold VC75 at h
  refine aw_seq ?_
  refine aw_region ?_
  refine awl_runp 2 [1, 2] [2] (ob := (True ∧ True ∧ True)) (st' := (⟨11, [(1, [], .v (.c (.p (.sl (.int .i64)) w))), (2, [], .v (.c (.ptr 2 0)))], [(2, [], .box [.p (.int .i64) k])]⟩ : St)) (by kernel_rfl) ⟨trivial, trivial, trivial⟩ ?_
  refine awl_nil ?_
  refine thenQ_n ?_
  refine aw_seq ?_
  refine aw_seq ?_
  refine aw_region ?_
  refine awl_runp 3 [1, 2, 7] [2] (ob := (True ∧ True ∧ True ∧ True)) (st' := (⟨11, [(1, [], .v (.c (.p (.sl (.int .i64)) w))), (2, [], .v (.c (.ptr 2 0))), (7, [], .v (.c (.p .bool (decide ((12 : Int) < (w.length : Int))))))], [(2, [], .box [.p (.int .i64) k])]⟩ : St)) (by kernel_rfl) ⟨trivial, trivial, trivial, trivial⟩ ?_
  refine awl_nil ?_
  refine thenQ_n ?_
  refine aw_cond (b := (decide ((12 : Int) < (w.length : Int)))) (by kernel_rfl) (fun hb => ?_) (fun hb => ?_)
  · have h := h.1 hb
    refine aw_seq ?_
    refine aw_region ?_
    refine awl_runp 1 [4] [] (ob := (True ∧ True)) (st' := (⟨11, [(4, [], .v (.c (.p (.int .i64) (1 : Int))))], []⟩ : St)) (by kernel_rfl) ⟨trivial, trivial⟩ ?_
    refine awl_nil ?_
    refine thenQ_n ?_
    refine aw_ret ?_
    refine thenQ_r ?_
    exact retQ_r (σ := Int) (R := (fun y => [toV1 (.int .i64) y])) (ob := (True ∧ True)) (1 : Int) (by kernel_rfl) ⟨trivial, trivial⟩ h
  · have h := h.2 hb
    refine aw_skip ?_
    refine thenQ_n ?_
    refine aw_seq ?_
    refine aw_seq ?_
    refine aw_region ?_
    refine awl_runp 1 [2, 8] [2] (ob := (True ∧ True)) (st' := (⟨11, [(2, [], .v (.c (.ptr 2 0))), (8, [], .v (.c (.p (.sl (.int .i64)) w)))], [(2, [], .box [.p (.int .i64) k])]⟩ : St)) (by kernel_rfl) ⟨trivial, trivial⟩ ?_
    refine awl_conv [.freezeB 2 (.int .i64)] (st' := (⟨11, [(2, [], .v (.c (.ad (.int .i64) k))), (8, [], .v (.c (.p (.sl (.int .i64)) w)))], []⟩ : St)) (by kernel_rfl) ?_
    refine awl_runp 1 [8, 9] [] (ob := (True ∧ True)) (st' := (⟨11, [(8, [], .v (.c (.p (.sl (.int .i64)) w))), (9, [], .v (.c (.fn 105 [(⟨(.int .i64), k⟩ : Dat)])))], []⟩ : St)) (by kernel_rfl) ⟨trivial, trivial⟩ ?_
    refine awl_callk (p := []) (l := [toV1 (.sl (.int .i64)) w, .c (.fn 105 [(⟨(.int .i64), k⟩ : Dat)])]) (cl := []) false [.d (.sl (.int .i64)), .fn] [10] [] (fun (ret10v : Bool) => ((ret10v = true → K (2 : Int)) ∧ (ret10v = false → K (0 : Int)))) (fun ret10v => [toV1 .bool ret10v]) (fun ret10v => (⟨11, [(10, [], .v (.c (.p .bool ret10v)))], []⟩ : St)) (by kernel_rfl) rfl (by kernel_rfl) rfl (by kernel_rfl) Try.call59 (by kernel_rfl) (fun ret10v => by kernel_rfl) (fun e => by cases e) (fun hg => link59 w 105 [(⟨(.int .i64), k⟩ : Dat)] (fun (x : Int) (K : Bool → Prop) => VC105 x k K) ⟨Try.call105, fun x K h => link105 x k K h⟩ _ h) (fun hg => noF hg) (fun ret10v h => ?_)
    have h : ((ret10v = true → K (2 : Int)) ∧ (ret10v = false → K (0 : Int))) := h
    refine awl_nil ?_
    refine thenQ_n ?_
    refine aw_cond (b := ret10v) (by kernel_rfl) (fun hb => ?_) (fun hb => ?_)
    · have h := h.1 hb
      refine aw_seq ?_
      refine aw_region ?_
      refine awl_runp 1 [4] [] (ob := (True ∧ True)) (st' := (⟨11, [(4, [], .v (.c (.p (.int .i64) (2 : Int))))], []⟩ : St)) (by kernel_rfl) ⟨trivial, trivial⟩ ?_
      refine awl_nil ?_
      refine thenQ_n ?_
      refine aw_ret ?_
      refine thenQ_r ?_
      exact retQ_r (σ := Int) (R := (fun y => [toV1 (.int .i64) y])) (ob := (True ∧ True)) (2 : Int) (by kernel_rfl) ⟨trivial, trivial⟩ h
    · have h := h.2 hb
      refine aw_skip ?_
      refine thenQ_n ?_
      refine aw_seq ?_
      refine aw_region ?_
      refine awl_runp 1 [4] [] (ob := (True ∧ True)) (st' := (⟨11, [(4, [], .v (.c (.p (.int .i64) (0 : Int))))], []⟩ : St)) (by kernel_rfl) ⟨trivial, trivial⟩ ?_
      refine awl_nil ?_
      refine thenQ_n ?_
      refine aw_ret ?_
      exact retQ_r (σ := Int) (R := (fun y => [toV1 (.int .i64) y])) (ob := (True ∧ True)) (0 : Int) (by kernel_rfl) ⟨trivial, trivial⟩ h

-- coppicer/table.Check
def VC44 (g : (Int × (Int × (Int × (List (Int × (List Int))))))) (w : (List Int)) (K : Int → Prop) : Prop :=
  VC51 g (fun (ret7v : Int) => (((!decide (ret7v = (0 : Int))) = true → K ret7v) ∧ ((!decide (ret7v = (0 : Int))) = false → VC75 g.1 w (fun (ret14v : Int) => K ret14v))))

set_option maxHeartbeats 4000000 in
theorem link44 (g : (Int × (Int × (Int × (List (Int × (List Int))))))) (w : (List Int)) (K : Int → Prop) (h : VC44 g w K) : ACalls Try.prog 44 [toV1 (.pr (.int .i64) (.pr (.int .i64) (.pr (.int .i64) (.sl (.pr (.int .i64) (.sl (.int .i64))))))) g, toV1 (.sl (.int .i64)) w] (fun res => ∃ y, res = (fun y => [toV1 (.int .i64) y]) y ∧ K y) := by
  refine acalls_of_aw [(.int .i64)] [.t 4] Try.func44 rfl rfl rfl ?_
  unfold VC44 at h
  refine aw_seq ?_
  refine aw_region ?_
  refine awl_runp 2 [1, 2] [2] (ob := (True ∧ True ∧ True)) (st' := (⟨15, [(1, [], .v (.c (.p (.sl (.int .i64)) w))), (2, [], .v (.c (.ptr 2 0)))], [(2, [], .box [.p (.int .i64) g.1, .p (.int .i64) g.2.1, .p (.int .i64) g.2.2.1, .p (.sl (.pr (.int .i64) (.sl (.int .i64)))) g.2.2.2])]⟩ : St)) (by kernel_rfl) ⟨trivial, trivial, trivial⟩ ?_
  refine awl_nil ?_
  refine thenQ_n ?_
  refine aw_seq ?_
  refine aw_seq ?_
  refine aw_region ?_
  refine awl_runp 1 [1, 2, 6] [2] (ob := (True ∧ True)) (st' := (⟨15, [(1, [], .v (.c (.p (.sl (.int .i64)) w))), (2, [], .v (.c (.ptr 2 0))), (6, [], .v (.agg [.p (.int .i64) g.1, .p (.int .i64) g.2.1, .p (.int .i64) g.2.2.1, .p (.sl (.pr (.int .i64) (.sl (.int .i64)))) g.2.2.2]))], [(2, [], .box [.p (.int .i64) g.1, .p (.int .i64) g.2.1, .p (.int .i64) g.2.2.1, .p (.sl (.pr (.int .i64) (.sl (.int .i64)))) g.2.2.2])]⟩ : St)) (by kernel_rfl) ⟨trivial, trivial⟩ ?_
  refine awl_callk (p := []) (l := [toV1 (.pr (.int .i64) (.pr (.int .i64) (.pr (.int .i64) (.sl (.pr (.int .i64) (.sl (.int .i64))))))) g]) (cl := []) false [.d (.pr (.int .i64) (.pr (.int .i64) (.pr (.int .i64) (.sl (.pr (.int .i64) (.sl (.int .i64)))))))] [1, 2, 7] [2] (fun (ret7v : Int) => (((!decide (ret7v = (0 : Int))) = true → K ret7v) ∧ ((!decide (ret7v = (0 : Int))) = false → VC75 g.1 w (fun (ret14v : Int) => K ret14v)))) (fun ret7v => [toV1 (.int .i64) ret7v]) (fun ret7v => (⟨15, [(1, [], .v (.c (.p (.sl (.int .i64)) w))), (2, [], .v (.c (.ptr 2 0))), (7, [], .v (.c (.p (.int .i64) ret7v)))], [(2, [], .box [.p (.int .i64) g.1, .p (.int .i64) g.2.1, .p (.int .i64) g.2.2.1, .p (.sl (.pr (.int .i64) (.sl (.int .i64)))) g.2.2.2])]⟩ : St)) (by kernel_rfl) rfl (by kernel_rfl) rfl (by kernel_rfl) Try.call51 (by kernel_rfl) (fun ret7v => by kernel_rfl) (fun e => by cases e) (fun hg => link51 g _ h) (fun hg => noF hg) (fun ret7v h => ?_)
  have h : (((!decide (ret7v = (0 : Int))) = true → K ret7v) ∧ ((!decide (ret7v = (0 : Int))) = false → VC75 g.1 w (fun (ret14v : Int) => K ret14v))) := h
  refine awl_runp 1 [1, 2, 5] [2] (ob := (True ∧ True)) (st' := (⟨15, [(1, [], .v (.c (.p (.sl (.int .i64)) w))), (2, [], .v (.c (.ptr 2 0))), (5, [], .v (.c (.p (.int .i64) ret7v)))], [(2, [], .box [.p (.int .i64) g.1, .p (.int .i64) g.2.1, .p (.int .i64) g.2.2.1, .p (.sl (.pr (.int .i64) (.sl (.int .i64)))) g.2.2.2])]⟩ : St)) (by kernel_rfl) ⟨trivial, trivial⟩ ?_
  refine awl_nil ?_
  refine thenQ_n ?_
  refine aw_seq ?_
  refine aw_region ?_
  refine awl_runp 2 [1, 2, 5, 9] [2] (ob := (True ∧ True ∧ True)) (st' := (⟨15, [(1, [], .v (.c (.p (.sl (.int .i64)) w))), (2, [], .v (.c (.ptr 2 0))), (5, [], .v (.c (.p (.int .i64) ret7v))), (9, [], .v (.c (.p .bool (!decide (ret7v = (0 : Int))))))], [(2, [], .box [.p (.int .i64) g.1, .p (.int .i64) g.2.1, .p (.int .i64) g.2.2.1, .p (.sl (.pr (.int .i64) (.sl (.int .i64)))) g.2.2.2])]⟩ : St)) (by kernel_rfl) ⟨trivial, trivial, trivial⟩ ?_
  refine awl_nil ?_
  refine thenQ_n ?_
  refine aw_cond (b := (!decide (ret7v = (0 : Int)))) (by kernel_rfl) (fun hb => ?_) (fun hb => ?_)
  · have h := h.1 hb
    refine aw_seq ?_
    refine aw_region ?_
    refine awl_runp 2 [4] [] (ob := (True ∧ True ∧ True)) (st' := (⟨15, [(4, [], .v (.c (.p (.int .i64) ret7v)))], []⟩ : St)) (by kernel_rfl) ⟨trivial, trivial, trivial⟩ ?_
    refine awl_nil ?_
    refine thenQ_n ?_
    refine aw_ret ?_
    refine thenQ_r ?_
    exact retQ_r (σ := Int) (R := (fun y => [toV1 (.int .i64) y])) (ob := (True ∧ True)) ret7v (by kernel_rfl) ⟨trivial, trivial⟩ h
  · have h := h.2 hb
    refine aw_skip ?_
    refine thenQ_n ?_
    refine aw_seq ?_
    refine aw_region ?_
    refine awl_runp 3 [12, 13] [] (ob := (True ∧ True ∧ True ∧ True)) (st' := (⟨15, [(12, [], .v (.c (.p (.int .i64) g.1))), (13, [], .v (.c (.p (.sl (.int .i64)) w)))], []⟩ : St)) (by kernel_rfl) ⟨trivial, trivial, trivial, trivial⟩ ?_
    refine awl_callk (p := []) (l := [toV1 (.int .i64) g.1, toV1 (.sl (.int .i64)) w]) (cl := []) false [.d (.int .i64), .d (.sl (.int .i64))] [14] [] (fun (ret14v : Int) => K ret14v) (fun ret14v => [toV1 (.int .i64) ret14v]) (fun ret14v => (⟨15, [(14, [], .v (.c (.p (.int .i64) ret14v)))], []⟩ : St)) (by kernel_rfl) rfl (by kernel_rfl) rfl (by kernel_rfl) Try.call75 (by kernel_rfl) (fun ret14v => by kernel_rfl) (fun e => by cases e) (fun hg => link75 g.1 w _ h) (fun hg => noF hg) (fun ret14v h => ?_)
    have h : K ret14v := h
    refine awl_runp 1 [4] [] (ob := (True ∧ True)) (st' := (⟨15, [(4, [], .v (.c (.p (.int .i64) ret14v)))], []⟩ : St)) (by kernel_rfl) ⟨trivial, trivial⟩ ?_
    refine awl_nil ?_
    refine thenQ_n ?_
    refine aw_ret ?_
    exact retQ_r (σ := Int) (R := (fun y => [toV1 (.int .i64) y])) (ob := (True ∧ True)) ret14v (by kernel_rfl) ⟨trivial, trivial⟩ h

-- (coppicer/table.Spans).Derives
def VC49 (sv : (List ((Int × Int) × Int))) (g : (Int × (Int × (Int × (List (Int × (List Int))))))) (w : (List Int)) (sign : Int) (rv : (Int × Int)) (K : Bool → Prop) : Prop :=
  (((decide (sign < g.1)) = true → (InR (rv.1 + (1 : Int)) ∧ ((decide (rv.2 = (rv.1 + (1 : Int)))) = true → inIdx rv.1 w.length) ∧ K ((decide (rv.2 = (rv.1 + (1 : Int)))) && (decide ((w.getD (rv.1).toNat (0 : Int)) = sign))))) ∧ ((decide (sign < g.1)) = false → (InR (sign - g.1) ∧ VC47 ((mget sv rv).getD (0 : Int)) (sign - g.1) (fun (ret37v : Bool) => K ret37v))))

set_option maxHeartbeats 4000000 in
theorem link49 (sv : (List ((Int × Int) × Int))) (g : (Int × (Int × (Int × (List (Int × (List Int))))))) (w : (List Int)) (sign : Int) (rv : (Int × Int)) (K : Bool → Prop) (h : VC49 sv g w sign rv K) : ACalls Try.prog 49 [toV1 (.mp (.pr (.int .i64) (.int .i64)) (.int .u32)) sv, toV1 (.pr (.int .i64) (.pr (.int .i64) (.pr (.int .i64) (.sl (.pr (.int .i64) (.sl (.int .i64))))))) g, toV1 (.sl (.int .i64)) w, toV1 (.int .i64) sign, toV1 (.pr (.int .i64) (.int .i64)) rv] (fun res => ∃ y, res = (fun y => [toV1 .bool y]) y ∧ K y) := by
  refine acalls_of_aw [.bool] [.t 10] Try.func49 rfl rfl rfl ?_
  unfold VC49 at h
  refine aw_seq ?_
  refine aw_region ?_
  refine awl_runp 3 [0, 2, 3, 6, 9] [6, 9] (ob := (True ∧ True ∧ True ∧ True)) (st' := (⟨38, [(0, [], .v (.c (.p (.mp (.pr (.int .i64) (.int .i64)) (.int .u32)) sv))), (2, [], .v (.c (.p (.sl (.int .i64)) w))), (3, [], .v (.c (.p (.int .i64) sign))), (6, [], .v (.c (.ptr 6 0))), (9, [], .v (.c (.ptr 9 0)))], [(6, [], .box [.p (.int .i64) g.1, .p (.int .i64) g.2.1, .p (.int .i64) g.2.2.1, .p (.sl (.pr (.int .i64) (.sl (.int .i64)))) g.2.2.2]), (9, [], .box [.p (.int .i64) rv.1, .p (.int .i64) rv.2])]⟩ : St)) (by kernel_rfl) ⟨trivial, trivial, trivial, trivial⟩ ?_
  refine awl_nil ?_
  refine thenQ_n ?_
  refine aw_seq ?_
  refine aw_seq ?_
  refine aw_region ?_
  refine awl_runp 4 [0, 2, 3, 6, 9, 14] [6, 9] (ob := (True ∧ True ∧ True ∧ True ∧ True)) (st' := (⟨38, [(0, [], .v (.c (.p (.mp (.pr (.int .i64) (.int .i64)) (.int .u32)) sv))), (2, [], .v (.c (.p (.sl (.int .i64)) w))), (3, [], .v (.c (.p (.int .i64) sign))), (6, [], .v (.c (.ptr 6 0))), (9, [], .v (.c (.ptr 9 0))), (14, [], .v (.c (.p .bool (decide (sign < g.1)))))], [(6, [], .box [.p (.int .i64) g.1, .p (.int .i64) g.2.1, .p (.int .i64) g.2.2.1, .p (.sl (.pr (.int .i64) (.sl (.int .i64)))) g.2.2.2]), (9, [], .box [.p (.int .i64) rv.1, .p (.int .i64) rv.2])]⟩ : St)) (by kernel_rfl) ⟨trivial, trivial, trivial, trivial, trivial⟩ ?_
  refine awl_nil ?_
  refine thenQ_n ?_
  refine aw_cond (b := (decide (sign < g.1))) (by kernel_rfl) (fun hb => ?_) (fun hb => ?_)
  · have h := h.1 hb
    refine aw_seq ?_
    refine aw_region ?_
    obtain ⟨o1, o2, h⟩ := h
    refine awl_runp 16 [10] [] (ob := (True ∧ True ∧ True ∧ True ∧ InR (rv.1 + (1 : Int)) ∧ True ∧ True ∧ ((decide (rv.2 = (rv.1 + (1 : Int)))) = true → True) ∧ ((decide (rv.2 = (rv.1 + (1 : Int)))) = true → True) ∧ ((decide (rv.2 = (rv.1 + (1 : Int)))) = true → True) ∧ ((decide (rv.2 = (rv.1 + (1 : Int)))) = true → inIdx rv.1 w.length) ∧ ((decide (rv.2 = (rv.1 + (1 : Int)))) = true → True) ∧ ((decide (rv.2 = (rv.1 + (1 : Int)))) = true → True) ∧ ((decide (rv.2 = (rv.1 + (1 : Int)))) = true → True) ∧ True ∧ True ∧ True)) (st' := (⟨38, [(10, [], .v (.c (.p .bool ((decide (rv.2 = (rv.1 + (1 : Int)))) && (decide ((w.getD (rv.1).toNat (0 : Int)) = sign))))))], []⟩ : St)) (by kernel_rfl) ⟨trivial, trivial, trivial, trivial, o1, trivial, trivial, (fun _ => trivial), (fun _ => trivial), (fun _ => trivial), o2, (fun _ => trivial), (fun _ => trivial), (fun _ => trivial), trivial, trivial, trivial⟩ ?_
    refine awl_nil ?_
    refine thenQ_n ?_
    refine aw_ret ?_
    refine thenQ_r ?_
    exact retQ_r (σ := Bool) (R := (fun y => [toV1 .bool y])) (ob := (True ∧ True)) ((decide (rv.2 = (rv.1 + (1 : Int)))) && (decide ((w.getD (rv.1).toNat (0 : Int)) = sign))) (by kernel_rfl) ⟨trivial, trivial⟩ h
  · have h := h.2 hb
    refine aw_skip ?_
    refine thenQ_n ?_
    refine aw_seq ?_
    refine awd_begin [] (by kernel_rfl) ?_
    obtain ⟨o1, h⟩ := h
    refine awd_runp (by kernel_rfl) [0, 1, 2, 3, 4, 5, 6] [32, 36] [] (ob := (True ∧ True ∧ True ∧ True ∧ True ∧ True ∧ InR (sign - g.1) ∧ True)) (done' := [6, 5, 4, 3, 2, 1, 0]) (st' := (⟨38, [(32, [], .v (.c (.p (.int .u32) ((mget sv rv).getD (0 : Int))))), (36, [], .v (.c (.p (.int .i64) (sign - g.1))))], []⟩ : St)) (by kernel_rfl) ⟨trivial, trivial, trivial, trivial, trivial, trivial, o1, trivial⟩ ?_
    refine awd_one (i := 7) (by kernel_rfl) ?_
    refine adop_callk (p := []) (l := [toV1 (.int .u32) ((mget sv rv).getD (0 : Int)), toV1 (.int .i64) (sign - g.1)]) (cl := []) false [.d (.int .u32), .d (.int .i64)] [37] [] (fun (ret37v : Bool) => K ret37v) (fun ret37v => [toV1 .bool ret37v]) (fun ret37v => (⟨38, [(37, [], .v (.c (.p .bool ret37v)))], []⟩ : St)) rfl (by kernel_rfl) rfl (by kernel_rfl) rfl (by kernel_rfl) Try.call47 (by kernel_rfl) (fun ret37v => by kernel_rfl) (fun e => by cases e) (fun hg => link47 ((mget sv rv).getD (0 : Int)) (sign - g.1) _ h) (fun hg => noF hg) (fun ret37v h => ?_)
    have h : K ret37v := h
    refine awd_runp (by kernel_rfl) [8] [10] [] (ob := (True ∧ True)) (done' := [8, 7, 6, 5, 4, 3, 2, 1, 0]) (st' := (⟨38, [(10, [], .v (.c (.p .bool ret37v)))], []⟩ : St)) (by kernel_rfl) ⟨trivial, trivial⟩ ?_
    refine awd_done (by kernel_rfl) ?_
    refine thenQ_n ?_
    refine aw_ret ?_
    exact retQ_r (σ := Bool) (R := (fun y => [toV1 .bool y])) (ob := (True ∧ True)) ret37v (by kernel_rfl) ⟨trivial, trivial⟩ h

-- (coppicer/table.Spans).Ends
def VC76_k1 (K : Int → Prop) (setv : Int) : Prop :=
  K setv

def VC76_k2 (v21 : Int) (X1 : Int × Int → Prop) (next : Int) : Prop :=
  (InR (v21 + (1 : Int)) ∧ X1 (next, (v21 + (1 : Int))))

def VC76_k3 (i : Int) (X2 : Int × Int → Prop) (next2 : Int) : Prop :=
  (InR (i + (1 : Int)) ∧ X2 (next2, (i + (1 : Int))))

def VC76_k4 (j : Int) (X3 : Int × Int → Prop) (next3 : Int) : Prop :=
  (InR (j + (1 : Int)) ∧ X3 (next3, (j + (1 : Int))))

def VC76_l3 (sv : (List ((Int × Int) × Int))) (g : (Int × (Int × (Int × (List (Int × (List Int))))))) (w : (List Int)) (signs : (List Int)) (setv : Int) (v21 : Int) (i : Int) (X2 : Int × Int → Prop) (next2 : Int) (j : Int) (X3 : Int × Int → Prop) : Prop :=
  (((decide (j ≤ (w.length : Int))) = true → VC47 setv i (fun (ret41v : Bool) => gcall (α := Bool) ret41v (VC49 sv g w (signs.getD (v21).toNat (0 : Int)) (i, j)) false (fun (ret50v : Bool) => (((ret41v && ret50v) = true → (0 ≤ j ∧ VC76_k4 j X3 (bOr .u32 next2 (bShl .u32 (1 : Int) j)))) ∧ ((ret41v && ret50v) = false → VC76_k4 j X3 next2))))) ∧ ((decide (j ≤ (w.length : Int))) = false → VC76_k3 i X2 next2))

def VC76_l2 (sv : (List ((Int × Int) × Int))) (g : (Int × (Int × (Int × (List (Int × (List Int))))))) (w : (List Int)) (signs : (List Int)) (setv : Int) (v21 : Int) (X1 : Int × Int → Prop) (next : Int) (i : Int) (X2 : Int × Int → Prop) : Prop :=
  (((decide (i ≤ (w.length : Int))) = true → Loop (σ := Int × Int) (fun s X => VC76_l3 sv g w signs setv v21 i X2 s.1 s.2 X) (next, i)) ∧ ((decide (i ≤ (w.length : Int))) = false → VC76_k2 v21 X1 next))

def VC76_l1 (sv : (List ((Int × Int) × Int))) (g : (Int × (Int × (Int × (List (Int × (List Int))))))) (w : (List Int)) (signs : (List Int)) (fromv : Int) (K : Int → Prop) (setv : Int) (v21 : Int) (X1 : Int × Int → Prop) : Prop :=
  (((decide (v21 < (signs.length : Int))) = true → (inIdx v21 signs.length ∧ Loop (σ := Int × Int) (fun s X => VC76_l2 sv g w signs setv v21 X1 s.1 s.2 X) ((0 : Int), fromv))) ∧ ((decide (v21 < (signs.length : Int))) = false → VC76_k1 K setv))

def VC76 (sv : (List ((Int × Int) × Int))) (g : (Int × (Int × (Int × (List (Int × (List Int))))))) (w : (List Int)) (signs : (List Int)) (fromv : Int) (K : Int → Prop) : Prop :=
  (0 ≤ fromv ∧ Loop (σ := Int × Int) (fun s X => VC76_l1 sv g w signs fromv K s.1 s.2 X) ((bShl .u32 (1 : Int) fromv), (0 : Int)))

set_option maxHeartbeats 4000000 in
theorem link76 (sv : (List ((Int × Int) × Int))) (g : (Int × (Int × (Int × (List (Int × (List Int))))))) (w : (List Int)) (signs : (List Int)) (fromv : Int) (K : Int → Prop) (h : VC76 sv g w signs fromv K) : ACalls Try.prog 76 [toV1 (.mp (.pr (.int .i64) (.int .i64)) (.int .u32)) sv, toV1 (.pr (.int .i64) (.pr (.int .i64) (.pr (.int .i64) (.sl (.pr (.int .i64) (.sl (.int .i64))))))) g, toV1 (.sl (.int .i64)) w, toV1 (.sl (.int .i64)) signs, toV1 (.int .i64) fromv] (fun res => ∃ y, res = (fun y => [toV1 (.int .u32) y]) y ∧ K y) := by
  refine acalls_of_aw [(.int .u32)] [.t 10] Try.func76 rfl rfl rfl ?_
  unfold VC76 at h
  refine aw_seq ?_
  refine aw_region ?_
  refine awl_runp 2 [0, 2, 3, 4, 6] [6] (ob := (True ∧ True ∧ True)) (st' := (⟨59, [(0, [], .v (.c (.p (.mp (.pr (.int .i64) (.int .i64)) (.int .u32)) sv))), (2, [], .v (.c (.p (.sl (.int .i64)) w))), (3, [], .v (.c (.p (.sl (.int .i64)) signs))), (4, [], .v (.c (.p (.int .i64) fromv))), (6, [], .v (.c (.ptr 6 0)))], [(6, [], .box [.p (.int .i64) g.1, .p (.int .i64) g.2.1, .p (.int .i64) g.2.2.1, .p (.sl (.pr (.int .i64) (.sl (.int .i64)))) g.2.2.2])]⟩ : St)) (by kernel_rfl) ⟨trivial, trivial, trivial⟩ ?_
  refine awl_nil ?_
  refine thenQ_n ?_
  refine aw_seq ?_
  refine aw_region ?_
  obtain ⟨o1, h⟩ := h
  refine awl_runp 3 [0, 2, 3, 4, 6, 11] [6] (ob := (True ∧ 0 ≤ fromv ∧ True ∧ True)) (st' := (⟨59, [(0, [], .v (.c (.p (.mp (.pr (.int .i64) (.int .i64)) (.int .u32)) sv))), (2, [], .v (.c (.p (.sl (.int .i64)) w))), (3, [], .v (.c (.p (.sl (.int .i64)) signs))), (4, [], .v (.c (.p (.int .i64) fromv))), (6, [], .v (.c (.ptr 6 0))), (11, [], .v (.c (.p (.int .u32) (bShl .u32 (1 : Int) fromv))))], [(6, [], .box [.p (.int .i64) g.1, .p (.int .i64) g.2.1, .p (.int .i64) g.2.2.1, .p (.sl (.pr (.int .i64) (.sl (.int .i64)))) g.2.2.2])]⟩ : St)) (by kernel_rfl) ⟨trivial, o1, trivial, trivial⟩ ?_
  refine awl_nil ?_
  refine thenQ_n ?_
  refine aw_seq ?_
  refine aw_seq ?_
  refine aw_region ?_
  refine awl_runp 3 [0, 2, 4, 6, 11, 19, 20, 21] [6] (ob := (True ∧ True ∧ True ∧ True)) (st' := (⟨59, [(0, [], .v (.c (.p (.mp (.pr (.int .i64) (.int .i64)) (.int .u32)) sv))), (2, [], .v (.c (.p (.sl (.int .i64)) w))), (4, [], .v (.c (.p (.int .i64) fromv))), (6, [], .v (.c (.ptr 6 0))), (11, [], .v (.c (.p (.int .u32) (bShl .u32 (1 : Int) fromv)))), (19, [], .v (.c (.p (.sl (.int .i64)) signs))), (20, [], .v (.c (.p (.int .i64) (signs.length : Int)))), (21, [], .v (.c (.p (.int .i64) (0 : Int))))], [(6, [], .box [.p (.int .i64) g.1, .p (.int .i64) g.2.1, .p (.int .i64) g.2.2.1, .p (.sl (.pr (.int .i64) (.sl (.int .i64)))) g.2.2.2])]⟩ : St)) (by kernel_rfl) ⟨trivial, trivial, trivial, trivial⟩ ?_
  refine awl_nil ?_
  refine thenQ_n ?_
  refine withJoin (σ := Int) (fun s => (⟨59, [(11, [], .v (.c (.p (.int .u32) s)))], []⟩ : St)) (fun s => VC76_k1 K s) (fun setv h => ?_) (fun rest1 => ?_)
  · have h : VC76_k1 K setv := h
    unfold VC76_k1 at h
    refine thenQ_n ?_
    refine aw_seq ?_
    refine aw_region ?_
    refine awl_runp 2 [10] [] (ob := (True ∧ True ∧ True)) (st' := (⟨59, [(10, [], .v (.c (.p (.int .u32) setv)))], []⟩ : St)) (by kernel_rfl) ⟨trivial, trivial, trivial⟩ ?_
    refine awl_nil ?_
    refine thenQ_n ?_
    refine aw_ret ?_
    exact retQ_r (σ := Int) (R := (fun y => [toV1 (.int .u32) y])) (ob := (True ∧ True)) setv (by kernel_rfl) ⟨trivial, trivial⟩ h
  · refine aw_block ?_
    refine aw_loop (σ := Int × Int) (fun s => (⟨59, [(0, [], .v (.c (.p (.mp (.pr (.int .i64) (.int .i64)) (.int .u32)) sv))), (2, [], .v (.c (.p (.sl (.int .i64)) w))), (4, [], .v (.c (.p (.int .i64) fromv))), (6, [], .v (.c (.ptr 6 0))), (11, [], .v (.c (.p (.int .u32) s.1))), (19, [], .v (.c (.p (.sl (.int .i64)) signs))), (20, [], .v (.c (.p (.int .i64) (signs.length : Int)))), (21, [], .v (.c (.p (.int .i64) s.2)))], [(6, [], .box [.p (.int .i64) g.1, .p (.int .i64) g.2.1, .p (.int .i64) g.2.2.1, .p (.sl (.pr (.int .i64) (.sl (.int .i64)))) g.2.2.2])]⟩ : St)) (fun s X => VC76_l1 sv g w signs fromv K s.1 s.2 X) (s0 := ((bShl .u32 (1 : Int) fromv), (0 : Int))) (fun s X1 h => ?_) h
    obtain ⟨setv, v21⟩ := s
    have h : VC76_l1 sv g w signs fromv K setv v21 X1 := h
    unfold VC76_l1 at h
    refine aw_seq ?_
    refine aw_region ?_
    refine awl_runp 1 [0, 2, 4, 6, 11, 19, 20, 21, 22] [6] (ob := (True ∧ True)) (st' := (⟨59, [(0, [], .v (.c (.p (.mp (.pr (.int .i64) (.int .i64)) (.int .u32)) sv))), (2, [], .v (.c (.p (.sl (.int .i64)) w))), (4, [], .v (.c (.p (.int .i64) fromv))), (6, [], .v (.c (.ptr 6 0))), (11, [], .v (.c (.p (.int .u32) setv))), (19, [], .v (.c (.p (.sl (.int .i64)) signs))), (20, [], .v (.c (.p (.int .i64) (signs.length : Int)))), (21, [], .v (.c (.p (.int .i64) v21))), (22, [], .v (.c (.p .bool (decide (v21 < (signs.length : Int))))))], [(6, [], .box [.p (.int .i64) g.1, .p (.int .i64) g.2.1, .p (.int .i64) g.2.2.1, .p (.sl (.pr (.int .i64) (.sl (.int .i64)))) g.2.2.2])]⟩ : St)) (by kernel_rfl) ⟨trivial, trivial⟩ ?_
    refine awl_nil ?_
    refine thenQ_n ?_
    refine aw_seq ?_
    refine aw_cond (b := (decide (v21 < (signs.length : Int)))) (by kernel_rfl) (fun hb => ?_) (fun hb => ?_)
    · have h := h.1 hb
      refine aw_skip ?_
      refine thenQ_n ?_
      refine aw_seq ?_
      refine aw_block ?_
      refine aw_seq ?_
      refine aw_region ?_
      obtain ⟨o1, h⟩ := h
      refine awl_runp 3 [0, 2, 4, 6, 11, 13, 19, 20, 21] [6] (ob := (inIdx v21 signs.length ∧ True ∧ True ∧ True)) (st' := (⟨59, [(0, [], .v (.c (.p (.mp (.pr (.int .i64) (.int .i64)) (.int .u32)) sv))), (2, [], .v (.c (.p (.sl (.int .i64)) w))), (4, [], .v (.c (.p (.int .i64) fromv))), (6, [], .v (.c (.ptr 6 0))), (11, [], .v (.c (.p (.int .u32) setv))), (13, [], .v (.c (.p (.int .i64) (signs.getD (v21).toNat (0 : Int))))), (19, [], .v (.c (.p (.sl (.int .i64)) signs))), (20, [], .v (.c (.p (.int .i64) (signs.length : Int)))), (21, [], .v (.c (.p (.int .i64) v21)))], [(6, [], .box [.p (.int .i64) g.1, .p (.int .i64) g.2.1, .p (.int .i64) g.2.2.1, .p (.sl (.pr (.int .i64) (.sl (.int .i64)))) g.2.2.2])]⟩ : St)) (by kernel_rfl) ⟨o1, trivial, trivial, trivial⟩ ?_
      refine awl_nil ?_
      refine thenQ_n ?_
      refine aw_seq ?_
      refine aw_region ?_
      refine awl_runp 1 [0, 2, 4, 6, 11, 13, 14, 19, 20, 21] [6] (ob := (True ∧ True)) (st' := (⟨59, [(0, [], .v (.c (.p (.mp (.pr (.int .i64) (.int .i64)) (.int .u32)) sv))), (2, [], .v (.c (.p (.sl (.int .i64)) w))), (4, [], .v (.c (.p (.int .i64) fromv))), (6, [], .v (.c (.ptr 6 0))), (11, [], .v (.c (.p (.int .u32) setv))), (13, [], .v (.c (.p (.int .i64) (signs.getD (v21).toNat (0 : Int))))), (14, [], .v (.c (.p (.int .u32) (0 : Int)))), (19, [], .v (.c (.p (.sl (.int .i64)) signs))), (20, [], .v (.c (.p (.int .i64) (signs.length : Int)))), (21, [], .v (.c (.p (.int .i64) v21)))], [(6, [], .box [.p (.int .i64) g.1, .p (.int .i64) g.2.1, .p (.int .i64) g.2.2.1, .p (.sl (.pr (.int .i64) (.sl (.int .i64)))) g.2.2.2])]⟩ : St)) (by kernel_rfl) ⟨trivial, trivial⟩ ?_
      refine awl_nil ?_
      refine thenQ_n ?_
      refine aw_seq ?_
      refine aw_seq ?_
      refine aw_region ?_
      refine awl_runp 2 [0, 2, 4, 6, 11, 13, 14, 15, 19, 20, 21] [6] (ob := (True ∧ True ∧ True)) (st' := (⟨59, [(0, [], .v (.c (.p (.mp (.pr (.int .i64) (.int .i64)) (.int .u32)) sv))), (2, [], .v (.c (.p (.sl (.int .i64)) w))), (4, [], .v (.c (.p (.int .i64) fromv))), (6, [], .v (.c (.ptr 6 0))), (11, [], .v (.c (.p (.int .u32) setv))), (13, [], .v (.c (.p (.int .i64) (signs.getD (v21).toNat (0 : Int))))), (14, [], .v (.c (.p (.int .u32) (0 : Int)))), (15, [], .v (.c (.p (.int .i64) fromv))), (19, [], .v (.c (.p (.sl (.int .i64)) signs))), (20, [], .v (.c (.p (.int .i64) (signs.length : Int)))), (21, [], .v (.c (.p (.int .i64) v21)))], [(6, [], .box [.p (.int .i64) g.1, .p (.int .i64) g.2.1, .p (.int .i64) g.2.2.1, .p (.sl (.pr (.int .i64) (.sl (.int .i64)))) g.2.2.2])]⟩ : St)) (by kernel_rfl) ⟨trivial, trivial, trivial⟩ ?_
      refine awl_nil ?_
      refine thenQ_n ?_
      refine withJoin (σ := Int) (fun s => (⟨59, [(0, [], .v (.c (.p (.mp (.pr (.int .i64) (.int .i64)) (.int .u32)) sv))), (2, [], .v (.c (.p (.sl (.int .i64)) w))), (4, [], .v (.c (.p (.int .i64) fromv))), (6, [], .v (.c (.ptr 6 0))), (14, [], .v (.c (.p (.int .u32) s))), (19, [], .v (.c (.p (.sl (.int .i64)) signs))), (20, [], .v (.c (.p (.int .i64) (signs.length : Int)))), (21, [], .v (.c (.p (.int .i64) v21)))], [(6, [], .box [.p (.int .i64) g.1, .p (.int .i64) g.2.1, .p (.int .i64) g.2.2.1, .p (.sl (.pr (.int .i64) (.sl (.int .i64)))) g.2.2.2])]⟩ : St)) (fun s => VC76_k2 v21 X1 s) (fun next h => ?_) (fun rest2 => ?_)
      · have h : VC76_k2 v21 X1 next := h
        unfold VC76_k2 at h
        refine thenQ_n ?_
        refine aw_region ?_
        refine awl_runp 2 [0, 2, 4, 6, 11, 19, 20, 21] [6] (ob := (True ∧ True ∧ True)) (st' := (⟨59, [(0, [], .v (.c (.p (.mp (.pr (.int .i64) (.int .i64)) (.int .u32)) sv))), (2, [], .v (.c (.p (.sl (.int .i64)) w))), (4, [], .v (.c (.p (.int .i64) fromv))), (6, [], .v (.c (.ptr 6 0))), (11, [], .v (.c (.p (.int .u32) next))), (19, [], .v (.c (.p (.sl (.int .i64)) signs))), (20, [], .v (.c (.p (.int .i64) (signs.length : Int)))), (21, [], .v (.c (.p (.int .i64) v21)))], [(6, [], .box [.p (.int .i64) g.1, .p (.int .i64) g.2.1, .p (.int .i64) g.2.2.1, .p (.sl (.pr (.int .i64) (.sl (.int .i64)))) g.2.2.2])]⟩ : St)) (by kernel_rfl) ⟨trivial, trivial, trivial⟩ ?_
        refine awl_nil ?_
        refine blockQ_n ?_
        refine thenQ_n ?_
        refine aw_region ?_
        obtain ⟨o1, h⟩ := h
        refine awl_runp 2 [0, 2, 4, 6, 11, 19, 20, 21] [6] (ob := (InR (v21 + (1 : Int)) ∧ True ∧ True)) (st' := (⟨59, [(0, [], .v (.c (.p (.mp (.pr (.int .i64) (.int .i64)) (.int .u32)) sv))), (2, [], .v (.c (.p (.sl (.int .i64)) w))), (4, [], .v (.c (.p (.int .i64) fromv))), (6, [], .v (.c (.ptr 6 0))), (11, [], .v (.c (.p (.int .u32) next))), (19, [], .v (.c (.p (.sl (.int .i64)) signs))), (20, [], .v (.c (.p (.int .i64) (signs.length : Int)))), (21, [], .v (.c (.p (.int .i64) (v21 + (1 : Int)))))], [(6, [], .box [.p (.int .i64) g.1, .p (.int .i64) g.2.1, .p (.int .i64) g.2.2.1, .p (.sl (.pr (.int .i64) (.sl (.int .i64)))) g.2.2.2])]⟩ : St)) (by kernel_rfl) ⟨o1, trivial, trivial⟩ ?_
        refine awl_nil ?_
        exact thenQ_n ⟨(next, (v21 + (1 : Int))), rfl, h⟩
      · refine aw_block ?_
        refine aw_loop (σ := Int × Int) (fun s => (⟨59, [(0, [], .v (.c (.p (.mp (.pr (.int .i64) (.int .i64)) (.int .u32)) sv))), (2, [], .v (.c (.p (.sl (.int .i64)) w))), (4, [], .v (.c (.p (.int .i64) fromv))), (6, [], .v (.c (.ptr 6 0))), (11, [], .v (.c (.p (.int .u32) setv))), (13, [], .v (.c (.p (.int .i64) (signs.getD (v21).toNat (0 : Int))))), (14, [], .v (.c (.p (.int .u32) s.1))), (15, [], .v (.c (.p (.int .i64) s.2))), (19, [], .v (.c (.p (.sl (.int .i64)) signs))), (20, [], .v (.c (.p (.int .i64) (signs.length : Int)))), (21, [], .v (.c (.p (.int .i64) v21)))], [(6, [], .box [.p (.int .i64) g.1, .p (.int .i64) g.2.1, .p (.int .i64) g.2.2.1, .p (.sl (.pr (.int .i64) (.sl (.int .i64)))) g.2.2.2])]⟩ : St)) (fun s X => VC76_l2 sv g w signs setv v21 X1 s.1 s.2 X) (s0 := ((0 : Int), fromv)) (fun s X2 h => ?_) h
        obtain ⟨next, i⟩ := s
        have h : VC76_l2 sv g w signs setv v21 X1 next i X2 := h
        unfold VC76_l2 at h
        refine aw_seq ?_
        refine aw_seq ?_
        refine aw_region ?_
        refine awl_runp 4 [0, 2, 4, 6, 11, 13, 14, 15, 19, 20, 21, 29] [6] (ob := (True ∧ True ∧ True ∧ True ∧ True)) (st' := (⟨59, [(0, [], .v (.c (.p (.mp (.pr (.int .i64) (.int .i64)) (.int .u32)) sv))), (2, [], .v (.c (.p (.sl (.int .i64)) w))), (4, [], .v (.c (.p (.int .i64) fromv))), (6, [], .v (.c (.ptr 6 0))), (11, [], .v (.c (.p (.int .u32) setv))), (13, [], .v (.c (.p (.int .i64) (signs.getD (v21).toNat (0 : Int))))), (14, [], .v (.c (.p (.int .u32) next))), (15, [], .v (.c (.p (.int .i64) i))), (19, [], .v (.c (.p (.sl (.int .i64)) signs))), (20, [], .v (.c (.p (.int .i64) (signs.length : Int)))), (21, [], .v (.c (.p (.int .i64) v21))), (29, [], .v (.c (.p .bool (decide (i ≤ (w.length : Int))))))], [(6, [], .box [.p (.int .i64) g.1, .p (.int .i64) g.2.1, .p (.int .i64) g.2.2.1, .p (.sl (.pr (.int .i64) (.sl (.int .i64)))) g.2.2.2])]⟩ : St)) (by kernel_rfl) ⟨trivial, trivial, trivial, trivial, trivial⟩ ?_
        refine awl_nil ?_
        refine thenQ_n ?_
        refine aw_cond (b := (decide (i ≤ (w.length : Int)))) (by kernel_rfl) (fun hb => ?_) (fun hb => ?_)
        · have h := h.1 hb
          refine aw_skip ?_
          refine thenQ_n ?_
          refine aw_seq ?_
          refine aw_block ?_
          refine aw_seq ?_
          refine aw_region ?_
          refine awl_runp 2 [0, 2, 4, 6, 11, 13, 14, 15, 16, 19, 20, 21] [6] (ob := (True ∧ True ∧ True)) (st' := (⟨59, [(0, [], .v (.c (.p (.mp (.pr (.int .i64) (.int .i64)) (.int .u32)) sv))), (2, [], .v (.c (.p (.sl (.int .i64)) w))), (4, [], .v (.c (.p (.int .i64) fromv))), (6, [], .v (.c (.ptr 6 0))), (11, [], .v (.c (.p (.int .u32) setv))), (13, [], .v (.c (.p (.int .i64) (signs.getD (v21).toNat (0 : Int))))), (14, [], .v (.c (.p (.int .u32) next))), (15, [], .v (.c (.p (.int .i64) i))), (16, [], .v (.c (.p (.int .i64) i))), (19, [], .v (.c (.p (.sl (.int .i64)) signs))), (20, [], .v (.c (.p (.int .i64) (signs.length : Int)))), (21, [], .v (.c (.p (.int .i64) v21)))], [(6, [], .box [.p (.int .i64) g.1, .p (.int .i64) g.2.1, .p (.int .i64) g.2.2.1, .p (.sl (.pr (.int .i64) (.sl (.int .i64)))) g.2.2.2])]⟩ : St)) (by kernel_rfl) ⟨trivial, trivial, trivial⟩ ?_
          refine awl_nil ?_
          refine thenQ_n ?_
          refine withJoin (σ := Int) (fun s => (⟨59, [(0, [], .v (.c (.p (.mp (.pr (.int .i64) (.int .i64)) (.int .u32)) sv))), (2, [], .v (.c (.p (.sl (.int .i64)) w))), (4, [], .v (.c (.p (.int .i64) fromv))), (6, [], .v (.c (.ptr 6 0))), (11, [], .v (.c (.p (.int .u32) setv))), (13, [], .v (.c (.p (.int .i64) (signs.getD (v21).toNat (0 : Int))))), (14, [], .v (.c (.p (.int .u32) s))), (15, [], .v (.c (.p (.int .i64) i))), (19, [], .v (.c (.p (.sl (.int .i64)) signs))), (20, [], .v (.c (.p (.int .i64) (signs.length : Int)))), (21, [], .v (.c (.p (.int .i64) v21)))], [(6, [], .box [.p (.int .i64) g.1, .p (.int .i64) g.2.1, .p (.int .i64) g.2.2.1, .p (.sl (.pr (.int .i64) (.sl (.int .i64)))) g.2.2.2])]⟩ : St)) (fun s => VC76_k3 i X2 s) (fun next2 h => ?_) (fun rest3 => ?_)
          · have h : VC76_k3 i X2 next2 := h
            unfold VC76_k3 at h
            refine blockQ_n ?_
            refine thenQ_n ?_
            refine aw_region ?_
            obtain ⟨o1, h⟩ := h
            refine awl_runp 3 [0, 2, 4, 6, 11, 13, 14, 15, 19, 20, 21] [6] (ob := (True ∧ InR (i + (1 : Int)) ∧ True ∧ True)) (st' := (⟨59, [(0, [], .v (.c (.p (.mp (.pr (.int .i64) (.int .i64)) (.int .u32)) sv))), (2, [], .v (.c (.p (.sl (.int .i64)) w))), (4, [], .v (.c (.p (.int .i64) fromv))), (6, [], .v (.c (.ptr 6 0))), (11, [], .v (.c (.p (.int .u32) setv))), (13, [], .v (.c (.p (.int .i64) (signs.getD (v21).toNat (0 : Int))))), (14, [], .v (.c (.p (.int .u32) next2))), (15, [], .v (.c (.p (.int .i64) (i + (1 : Int))))), (19, [], .v (.c (.p (.sl (.int .i64)) signs))), (20, [], .v (.c (.p (.int .i64) (signs.length : Int)))), (21, [], .v (.c (.p (.int .i64) v21)))], [(6, [], .box [.p (.int .i64) g.1, .p (.int .i64) g.2.1, .p (.int .i64) g.2.2.1, .p (.sl (.pr (.int .i64) (.sl (.int .i64)))) g.2.2.2])]⟩ : St)) (by kernel_rfl) ⟨trivial, o1, trivial, trivial⟩ ?_
            refine awl_nil ?_
            exact thenQ_n ⟨(next2, (i + (1 : Int))), rfl, h⟩
          · refine aw_block ?_
            refine aw_loop (σ := Int × Int) (fun s => (⟨59, [(0, [], .v (.c (.p (.mp (.pr (.int .i64) (.int .i64)) (.int .u32)) sv))), (2, [], .v (.c (.p (.sl (.int .i64)) w))), (4, [], .v (.c (.p (.int .i64) fromv))), (6, [], .v (.c (.ptr 6 0))), (11, [], .v (.c (.p (.int .u32) setv))), (13, [], .v (.c (.p (.int .i64) (signs.getD (v21).toNat (0 : Int))))), (14, [], .v (.c (.p (.int .u32) s.1))), (15, [], .v (.c (.p (.int .i64) i))), (16, [], .v (.c (.p (.int .i64) s.2))), (19, [], .v (.c (.p (.sl (.int .i64)) signs))), (20, [], .v (.c (.p (.int .i64) (signs.length : Int)))), (21, [], .v (.c (.p (.int .i64) v21)))], [(6, [], .box [.p (.int .i64) g.1, .p (.int .i64) g.2.1, .p (.int .i64) g.2.2.1, .p (.sl (.pr (.int .i64) (.sl (.int .i64)))) g.2.2.2])]⟩ : St)) (fun s X => VC76_l3 sv g w signs setv v21 i X2 s.1 s.2 X) (s0 := (next, i)) (fun s X3 h => ?_) h
            obtain ⟨next2, j⟩ := s
            have h : VC76_l3 sv g w signs setv v21 i X2 next2 j X3 := h
            unfold VC76_l3 at h
            refine aw_seq ?_
            refine aw_seq ?_
            refine aw_region ?_
            refine awl_runp 4 [0, 2, 4, 6, 11, 13, 14, 15, 16, 19, 20, 21, 36] [6] (ob := (True ∧ True ∧ True ∧ True ∧ True)) (st' := (⟨59, [(0, [], .v (.c (.p (.mp (.pr (.int .i64) (.int .i64)) (.int .u32)) sv))), (2, [], .v (.c (.p (.sl (.int .i64)) w))), (4, [], .v (.c (.p (.int .i64) fromv))), (6, [], .v (.c (.ptr 6 0))), (11, [], .v (.c (.p (.int .u32) setv))), (13, [], .v (.c (.p (.int .i64) (signs.getD (v21).toNat (0 : Int))))), (14, [], .v (.c (.p (.int .u32) next2))), (15, [], .v (.c (.p (.int .i64) i))), (16, [], .v (.c (.p (.int .i64) j))), (19, [], .v (.c (.p (.sl (.int .i64)) signs))), (20, [], .v (.c (.p (.int .i64) (signs.length : Int)))), (21, [], .v (.c (.p (.int .i64) v21))), (36, [], .v (.c (.p .bool (decide (j ≤ (w.length : Int))))))], [(6, [], .box [.p (.int .i64) g.1, .p (.int .i64) g.2.1, .p (.int .i64) g.2.2.1, .p (.sl (.pr (.int .i64) (.sl (.int .i64)))) g.2.2.2])]⟩ : St)) (by kernel_rfl) ⟨trivial, trivial, trivial, trivial, trivial⟩ ?_
            refine awl_nil ?_
            refine thenQ_n ?_
            refine aw_cond (b := (decide (j ≤ (w.length : Int)))) (by kernel_rfl) (fun hb => ?_) (fun hb => ?_)
            · have h := h.1 hb
              refine aw_skip ?_
              refine thenQ_n ?_
              refine aw_seq ?_
              refine aw_block ?_
              refine aw_seq ?_
              refine aw_region ?_
              refine awl_runp 2 [0, 2, 4, 6, 11, 13, 14, 15, 16, 19, 20, 21, 39, 40] [6] (ob := (True ∧ True ∧ True)) (st' := (⟨59, [(0, [], .v (.c (.p (.mp (.pr (.int .i64) (.int .i64)) (.int .u32)) sv))), (2, [], .v (.c (.p (.sl (.int .i64)) w))), (4, [], .v (.c (.p (.int .i64) fromv))), (6, [], .v (.c (.ptr 6 0))), (11, [], .v (.c (.p (.int .u32) setv))), (13, [], .v (.c (.p (.int .i64) (signs.getD (v21).toNat (0 : Int))))), (14, [], .v (.c (.p (.int .u32) next2))), (15, [], .v (.c (.p (.int .i64) i))), (16, [], .v (.c (.p (.int .i64) j))), (19, [], .v (.c (.p (.sl (.int .i64)) signs))), (20, [], .v (.c (.p (.int .i64) (signs.length : Int)))), (21, [], .v (.c (.p (.int .i64) v21))), (39, [], .v (.c (.p (.int .u32) setv))), (40, [], .v (.c (.p (.int .i64) i)))], [(6, [], .box [.p (.int .i64) g.1, .p (.int .i64) g.2.1, .p (.int .i64) g.2.2.1, .p (.sl (.pr (.int .i64) (.sl (.int .i64)))) g.2.2.2])]⟩ : St)) (by kernel_rfl) ⟨trivial, trivial, trivial⟩ ?_
              refine awl_callk (p := []) (l := [toV1 (.int .u32) setv, toV1 (.int .i64) i]) (cl := []) false [.d (.int .u32), .d (.int .i64)] [0, 2, 4, 6, 11, 13, 14, 15, 16, 19, 20, 21, 41] [6] (fun (ret41v : Bool) => gcall (α := Bool) ret41v (VC49 sv g w (signs.getD (v21).toNat (0 : Int)) (i, j)) false (fun (ret50v : Bool) => (((ret41v && ret50v) = true → (0 ≤ j ∧ VC76_k4 j X3 (bOr .u32 next2 (bShl .u32 (1 : Int) j)))) ∧ ((ret41v && ret50v) = false → VC76_k4 j X3 next2)))) (fun ret41v => [toV1 .bool ret41v]) (fun ret41v => (⟨59, [(0, [], .v (.c (.p (.mp (.pr (.int .i64) (.int .i64)) (.int .u32)) sv))), (2, [], .v (.c (.p (.sl (.int .i64)) w))), (4, [], .v (.c (.p (.int .i64) fromv))), (6, [], .v (.c (.ptr 6 0))), (11, [], .v (.c (.p (.int .u32) setv))), (13, [], .v (.c (.p (.int .i64) (signs.getD (v21).toNat (0 : Int))))), (14, [], .v (.c (.p (.int .u32) next2))), (15, [], .v (.c (.p (.int .i64) i))), (16, [], .v (.c (.p (.int .i64) j))), (19, [], .v (.c (.p (.sl (.int .i64)) signs))), (20, [], .v (.c (.p (.int .i64) (signs.length : Int)))), (21, [], .v (.c (.p (.int .i64) v21))), (41, [], .v (.c (.p .bool ret41v)))], [(6, [], .box [.p (.int .i64) g.1, .p (.int .i64) g.2.1, .p (.int .i64) g.2.2.1, .p (.sl (.pr (.int .i64) (.sl (.int .i64)))) g.2.2.2])]⟩ : St)) (by kernel_rfl) rfl (by kernel_rfl) rfl (by kernel_rfl) Try.call47 (by kernel_rfl) (fun ret41v => by kernel_rfl) (fun e => by cases e) (fun hg => link47 setv i _ h) (fun hg => noF hg) (fun ret41v h => ?_)
              have h : gcall (α := Bool) ret41v (VC49 sv g w (signs.getD (v21).toNat (0 : Int)) (i, j)) false (fun (ret50v : Bool) => (((ret41v && ret50v) = true → (0 ≤ j ∧ VC76_k4 j X3 (bOr .u32 next2 (bShl .u32 (1 : Int) j)))) ∧ ((ret41v && ret50v) = false → VC76_k4 j X3 next2))) := h
              refine awl_runp 8 [0, 2, 4, 6, 11, 13, 14, 15, 16, 19, 20, 21, 42, 43, 44, 45, 46, 49] [6] (ob := (True ∧ (ret41v = true → True) ∧ (ret41v = true → True) ∧ (ret41v = true → True) ∧ (ret41v = true → True) ∧ (ret41v = true → True) ∧ (ret41v = true → True) ∧ (ret41v = true → True) ∧ True)) (st' := (⟨59, [(0, [], .v (.c (.p (.mp (.pr (.int .i64) (.int .i64)) (.int .u32)) sv))), (2, [], .v (.c (.p (.sl (.int .i64)) w))), (4, [], .v (.c (.p (.int .i64) fromv))), (6, [], .v (.c (.ptr 6 0))), (11, [], .v (.c (.p (.int .u32) setv))), (13, [], .v (.c (.p (.int .i64) (signs.getD (v21).toNat (0 : Int))))), (14, [], .v (.c (.p (.int .u32) next2))), (15, [], .v (.c (.p (.int .i64) i))), (16, [], .v (.c (.p (.int .i64) j))), (19, [], .v (.c (.p (.sl (.int .i64)) signs))), (20, [], .v (.c (.p (.int .i64) (signs.length : Int)))), (21, [], .v (.c (.p (.int .i64) v21))), (42, [], .v (.c (.p .bool ret41v))), (43, [(42, true)], .v (.c (.p (.mp (.pr (.int .i64) (.int .i64)) (.int .u32)) sv))), (44, [(42, true)], .v (.agg [.p (.int .i64) g.1, .p (.int .i64) g.2.1, .p (.int .i64) g.2.2.1, .p (.sl (.pr (.int .i64) (.sl (.int .i64)))) g.2.2.2])), (45, [(42, true)], .v (.c (.p (.sl (.int .i64)) w))), (46, [(42, true)], .v (.c (.p (.int .i64) (signs.getD (v21).toNat (0 : Int))))), (49, [(42, true)], .v (.agg [.p (.int .i64) i, .p (.int .i64) j]))], [(6, [], .box [.p (.int .i64) g.1, .p (.int .i64) g.2.1, .p (.int .i64) g.2.2.1, .p (.sl (.pr (.int .i64) (.sl (.int .i64)))) g.2.2.2])]⟩ : St)) (by kernel_rfl) ⟨trivial, (fun _ => trivial), (fun _ => trivial), (fun _ => trivial), (fun _ => trivial), (fun _ => trivial), (fun _ => trivial), (fun _ => trivial), trivial⟩ ?_
              refine awl_callk (p := [(42, true)]) (l := [toV1 (.mp (.pr (.int .i64) (.int .i64)) (.int .u32)) sv, toV1 (.pr (.int .i64) (.pr (.int .i64) (.pr (.int .i64) (.sl (.pr (.int .i64) (.sl (.int .i64))))))) g, toV1 (.sl (.int .i64)) w, toV1 (.int .i64) (signs.getD (v21).toNat (0 : Int)), toV1 (.pr (.int .i64) (.int .i64)) (i, j)]) (cl := []) false [.d (.mp (.pr (.int .i64) (.int .i64)) (.int .u32)), .d (.pr (.int .i64) (.pr (.int .i64) (.pr (.int .i64) (.sl (.pr (.int .i64) (.sl (.int .i64))))))), .d (.sl (.int .i64)), .d (.int .i64), .d (.pr (.int .i64) (.int .i64))] [0, 2, 4, 6, 11, 13, 14, 15, 16, 19, 20, 21, 42, 50] [6] (fun (ret50v : Bool) => (((ret41v && ret50v) = true → (0 ≤ j ∧ VC76_k4 j X3 (bOr .u32 next2 (bShl .u32 (1 : Int) j)))) ∧ ((ret41v && ret50v) = false → VC76_k4 j X3 next2))) (fun ret50v => [toV1 .bool ret50v]) (fun ret50v => (⟨59, [(0, [], .v (.c (.p (.mp (.pr (.int .i64) (.int .i64)) (.int .u32)) sv))), (2, [], .v (.c (.p (.sl (.int .i64)) w))), (4, [], .v (.c (.p (.int .i64) fromv))), (6, [], .v (.c (.ptr 6 0))), (11, [], .v (.c (.p (.int .u32) setv))), (13, [], .v (.c (.p (.int .i64) (signs.getD (v21).toNat (0 : Int))))), (14, [], .v (.c (.p (.int .u32) next2))), (15, [], .v (.c (.p (.int .i64) i))), (16, [], .v (.c (.p (.int .i64) j))), (19, [], .v (.c (.p (.sl (.int .i64)) signs))), (20, [], .v (.c (.p (.int .i64) (signs.length : Int)))), (21, [], .v (.c (.p (.int .i64) v21))), (42, [], .v (.c (.p .bool ret41v))), (50, [(42, true)], .v (.c (.p .bool ret50v)))], [(6, [], .box [.p (.int .i64) g.1, .p (.int .i64) g.2.1, .p (.int .i64) g.2.2.1, .p (.sl (.pr (.int .i64) (.sl (.int .i64)))) g.2.2.2])]⟩ : St)) (by kernel_rfl) rfl (by kernel_rfl) rfl (by kernel_rfl) Try.call49 (by kernel_rfl) (fun ret50v => by kernel_rfl) (fun e => by cases e) (fun hg => link49 sv g w (signs.getD (v21).toNat (0 : Int)) (i, j) _ (by have := gcall_T h (show ret41v = true from hg); exact this)) (fun hg => ⟨false, by have := gcall_F h (show ret41v = false from hg); exact this⟩) (fun ret50v h => ?_)
              have h : (((ret41v && ret50v) = true → (0 ≤ j ∧ VC76_k4 j X3 (bOr .u32 next2 (bShl .u32 (1 : Int) j)))) ∧ ((ret41v && ret50v) = false → VC76_k4 j X3 next2)) := h
              refine awl_runp 1 [0, 2, 4, 6, 11, 13, 14, 15, 16, 19, 20, 21, 51] [6] (ob := (True ∧ True)) (st' := (⟨59, [(0, [], .v (.c (.p (.mp (.pr (.int .i64) (.int .i64)) (.int .u32)) sv))), (2, [], .v (.c (.p (.sl (.int .i64)) w))), (4, [], .v (.c (.p (.int .i64) fromv))), (6, [], .v (.c (.ptr 6 0))), (11, [], .v (.c (.p (.int .u32) setv))), (13, [], .v (.c (.p (.int .i64) (signs.getD (v21).toNat (0 : Int))))), (14, [], .v (.c (.p (.int .u32) next2))), (15, [], .v (.c (.p (.int .i64) i))), (16, [], .v (.c (.p (.int .i64) j))), (19, [], .v (.c (.p (.sl (.int .i64)) signs))), (20, [], .v (.c (.p (.int .i64) (signs.length : Int)))), (21, [], .v (.c (.p (.int .i64) v21))), (51, [], .v (.c (.p .bool (ret41v && ret50v))))], [(6, [], .box [.p (.int .i64) g.1, .p (.int .i64) g.2.1, .p (.int .i64) g.2.2.1, .p (.sl (.pr (.int .i64) (.sl (.int .i64)))) g.2.2.2])]⟩ : St)) (by kernel_rfl) ⟨trivial, trivial⟩ ?_
              refine awl_nil ?_
              refine thenQ_n ?_
              refine withJoin (σ := Int) (fun s => (⟨59, [(0, [], .v (.c (.p (.mp (.pr (.int .i64) (.int .i64)) (.int .u32)) sv))), (2, [], .v (.c (.p (.sl (.int .i64)) w))), (4, [], .v (.c (.p (.int .i64) fromv))), (6, [], .v (.c (.ptr 6 0))), (11, [], .v (.c (.p (.int .u32) setv))), (13, [], .v (.c (.p (.int .i64) (signs.getD (v21).toNat (0 : Int))))), (14, [], .v (.c (.p (.int .u32) s))), (15, [], .v (.c (.p (.int .i64) i))), (16, [], .v (.c (.p (.int .i64) j))), (19, [], .v (.c (.p (.sl (.int .i64)) signs))), (20, [], .v (.c (.p (.int .i64) (signs.length : Int)))), (21, [], .v (.c (.p (.int .i64) v21)))], [(6, [], .box [.p (.int .i64) g.1, .p (.int .i64) g.2.1, .p (.int .i64) g.2.2.1, .p (.sl (.pr (.int .i64) (.sl (.int .i64)))) g.2.2.2])]⟩ : St)) (fun s => VC76_k4 j X3 s) (fun next3 h => ?_) (fun rest4 => ?_)
              · have h : VC76_k4 j X3 next3 := h
                unfold VC76_k4 at h
                refine blockQ_n ?_
                refine thenQ_n ?_
                refine aw_region ?_
                obtain ⟨o1, h⟩ := h
                refine awl_runp 3 [0, 2, 4, 6, 11, 13, 14, 15, 16, 19, 20, 21] [6] (ob := (True ∧ InR (j + (1 : Int)) ∧ True ∧ True)) (st' := (⟨59, [(0, [], .v (.c (.p (.mp (.pr (.int .i64) (.int .i64)) (.int .u32)) sv))), (2, [], .v (.c (.p (.sl (.int .i64)) w))), (4, [], .v (.c (.p (.int .i64) fromv))), (6, [], .v (.c (.ptr 6 0))), (11, [], .v (.c (.p (.int .u32) setv))), (13, [], .v (.c (.p (.int .i64) (signs.getD (v21).toNat (0 : Int))))), (14, [], .v (.c (.p (.int .u32) next3))), (15, [], .v (.c (.p (.int .i64) i))), (16, [], .v (.c (.p (.int .i64) (j + (1 : Int))))), (19, [], .v (.c (.p (.sl (.int .i64)) signs))), (20, [], .v (.c (.p (.int .i64) (signs.length : Int)))), (21, [], .v (.c (.p (.int .i64) v21)))], [(6, [], .box [.p (.int .i64) g.1, .p (.int .i64) g.2.1, .p (.int .i64) g.2.2.1, .p (.sl (.pr (.int .i64) (.sl (.int .i64)))) g.2.2.2])]⟩ : St)) (by kernel_rfl) ⟨trivial, o1, trivial, trivial⟩ ?_
                refine awl_nil ?_
                exact thenQ_n ⟨(next3, (j + (1 : Int))), rfl, h⟩
              · refine aw_cond (b := (ret41v && ret50v)) (by kernel_rfl) (fun hb => ?_) (fun hb => ?_)
                · have h := h.1 hb
                  refine aw_region ?_
                  obtain ⟨o1, h⟩ := h
                  refine awl_runp 5 [0, 2, 4, 6, 11, 13, 14, 15, 16, 19, 20, 21] [6] (ob := (True ∧ True ∧ 0 ≤ j ∧ True ∧ True ∧ True)) (st' := (⟨59, [(0, [], .v (.c (.p (.mp (.pr (.int .i64) (.int .i64)) (.int .u32)) sv))), (2, [], .v (.c (.p (.sl (.int .i64)) w))), (4, [], .v (.c (.p (.int .i64) fromv))), (6, [], .v (.c (.ptr 6 0))), (11, [], .v (.c (.p (.int .u32) setv))), (13, [], .v (.c (.p (.int .i64) (signs.getD (v21).toNat (0 : Int))))), (14, [], .v (.c (.p (.int .u32) (bOr .u32 next2 (bShl .u32 (1 : Int) j))))), (15, [], .v (.c (.p (.int .i64) i))), (16, [], .v (.c (.p (.int .i64) j))), (19, [], .v (.c (.p (.sl (.int .i64)) signs))), (20, [], .v (.c (.p (.int .i64) (signs.length : Int)))), (21, [], .v (.c (.p (.int .i64) v21)))], [(6, [], .box [.p (.int .i64) g.1, .p (.int .i64) g.2.1, .p (.int .i64) g.2.2.1, .p (.sl (.pr (.int .i64) (.sl (.int .i64)))) g.2.2.2])]⟩ : St)) (by kernel_rfl) ⟨trivial, trivial, o1, trivial, trivial, trivial⟩ ?_
                  refine awl_nil ?_
                  exact rest4 (bOr .u32 next2 (bShl .u32 (1 : Int) j)) h
                · have h := h.2 hb
                  refine aw_conv [.prune [0, 2, 4, 6, 11, 13, 14, 15, 16, 19, 20, 21] [6]] (st' := (⟨59, [(0, [], .v (.c (.p (.mp (.pr (.int .i64) (.int .i64)) (.int .u32)) sv))), (2, [], .v (.c (.p (.sl (.int .i64)) w))), (4, [], .v (.c (.p (.int .i64) fromv))), (6, [], .v (.c (.ptr 6 0))), (11, [], .v (.c (.p (.int .u32) setv))), (13, [], .v (.c (.p (.int .i64) (signs.getD (v21).toNat (0 : Int))))), (14, [], .v (.c (.p (.int .u32) next2))), (15, [], .v (.c (.p (.int .i64) i))), (16, [], .v (.c (.p (.int .i64) j))), (19, [], .v (.c (.p (.sl (.int .i64)) signs))), (20, [], .v (.c (.p (.int .i64) (signs.length : Int)))), (21, [], .v (.c (.p (.int .i64) v21)))], [(6, [], .box [.p (.int .i64) g.1, .p (.int .i64) g.2.1, .p (.int .i64) g.2.2.1, .p (.sl (.pr (.int .i64) (.sl (.int .i64)))) g.2.2.2])]⟩ : St)) (by kernel_rfl) ?_
                  refine aw_skip ?_
                  exact rest4 next2 h
            · have h := h.2 hb
              refine aw_conv [.prune [0, 2, 4, 6, 11, 13, 14, 15, 19, 20, 21] [6]] (st' := (⟨59, [(0, [], .v (.c (.p (.mp (.pr (.int .i64) (.int .i64)) (.int .u32)) sv))), (2, [], .v (.c (.p (.sl (.int .i64)) w))), (4, [], .v (.c (.p (.int .i64) fromv))), (6, [], .v (.c (.ptr 6 0))), (11, [], .v (.c (.p (.int .u32) setv))), (13, [], .v (.c (.p (.int .i64) (signs.getD (v21).toNat (0 : Int))))), (14, [], .v (.c (.p (.int .u32) next2))), (15, [], .v (.c (.p (.int .i64) i))), (19, [], .v (.c (.p (.sl (.int .i64)) signs))), (20, [], .v (.c (.p (.int .i64) (signs.length : Int)))), (21, [], .v (.c (.p (.int .i64) v21)))], [(6, [], .box [.p (.int .i64) g.1, .p (.int .i64) g.2.1, .p (.int .i64) g.2.2.1, .p (.sl (.pr (.int .i64) (.sl (.int .i64)))) g.2.2.2])]⟩ : St)) (by kernel_rfl) ?_
              refine aw_exit ?_
              refine thenQ_x ?_
              refine thenQ_x ?_
              refine blockQ_hit ?_
              exact rest3 next2 h
        · have h := h.2 hb
          refine aw_conv [.prune [0, 2, 4, 6, 14, 19, 20, 21] [6]] (st' := (⟨59, [(0, [], .v (.c (.p (.mp (.pr (.int .i64) (.int .i64)) (.int .u32)) sv))), (2, [], .v (.c (.p (.sl (.int .i64)) w))), (4, [], .v (.c (.p (.int .i64) fromv))), (6, [], .v (.c (.ptr 6 0))), (14, [], .v (.c (.p (.int .u32) next))), (19, [], .v (.c (.p (.sl (.int .i64)) signs))), (20, [], .v (.c (.p (.int .i64) (signs.length : Int)))), (21, [], .v (.c (.p (.int .i64) v21)))], [(6, [], .box [.p (.int .i64) g.1, .p (.int .i64) g.2.1, .p (.int .i64) g.2.2.1, .p (.sl (.pr (.int .i64) (.sl (.int .i64)))) g.2.2.2])]⟩ : St)) (by kernel_rfl) ?_
          refine aw_exit ?_
          refine thenQ_x ?_
          refine thenQ_x ?_
          refine blockQ_hit ?_
          exact rest2 next h
    · have h := h.2 hb
      refine aw_conv [.prune [11] []] (st' := (⟨59, [(11, [], .v (.c (.p (.int .u32) setv)))], []⟩ : St)) (by kernel_rfl) ?_
      refine aw_exit ?_
      refine thenQ_x ?_
      refine thenQ_x ?_
      refine blockQ_hit ?_
      exact rest1 setv h

-- coppicer/table.Make
def VC45_k1 (K : (List ((Int × Int) × Int)) → Prop) (sv : (List ((Int × Int) × Int))) : Prop :=
  K sv

def VC45_k2 (X1 : Bool × (List ((Int × Int) × Int)) → Prop) (grown2 : Bool) (sv2 : (List ((Int × Int) × Int))) : Prop :=
  X1 (grown2, sv2)

def VC45_k3 (fromv : Int) (X2 : Bool × Int × (List ((Int × Int) × Int)) → Prop) (grown3 : Bool) (sv3 : (List ((Int × Int) × Int))) : Prop :=
  (InR (fromv - (1 : Int)) ∧ X2 (grown3, (fromv - (1 : Int)), sv3))

def VC45_k4 (v24 : Int) (X3 : Bool × Int × (List ((Int × Int) × Int)) → Prop) (grown4 : Bool) (sv4 : (List ((Int × Int) × Int))) : Prop :=
  (InR (v24 + (1 : Int)) ∧ X3 (grown4, (v24 + (1 : Int)), sv4))

def VC45_k5 (tov : Int) (X4 : Bool × Int × (List ((Int × Int) × Int)) → Prop) (grown5 : Bool) (sv5 : (List ((Int × Int) × Int))) : Prop :=
  (InR (tov + (1 : Int)) ∧ X4 (grown5, (tov + (1 : Int)), sv5))

def VC45_l4 (g : (Int × (Int × (Int × (List (Int × (List Int))))))) (w : (List Int)) (fromv : Int) (v24 : Int) (X3 : Bool × Int × (List ((Int × Int) × Int)) → Prop) (ret34v : Int) (grown4 : Bool) (tov : Int) (sv4 : (List ((Int × Int) × Int))) (X4 : Bool × Int × (List ((Int × Int) × Int)) → Prop) : Prop :=
  (((decide (tov ≤ (w.length : Int))) = true → VC47 ret34v tov (fun (ret47v : Bool) => gcall (α := Bool) ret47v (VC47 ((mget sv4 (fromv, tov)).getD (0 : Int)) ((g.2.2.2.getD (v24).toNat ((0 : Int), ([] : (List Int)))).1)) false (fun (ret54v : Bool) => (((ret47v && (!ret54v)) = true → (0 ≤ (g.2.2.2.getD (v24).toNat ((0 : Int), ([] : (List Int)))).1 ∧ ((InR (sv4.length : Int) ∧ (inIdx (mplace sv4 (fromv, tov)) (mtouch sv4 (fromv, tov) (0 : Int)).length ∧ VC45_k5 tov X4 true (mputAt (mtouch sv4 (fromv, tov) (0 : Int)) ((mplace sv4 (fromv, tov))).toNat (bOr .u32 ((mget sv4 (fromv, tov)).getD (0 : Int)) (bShl .u32 (1 : Int) ((g.2.2.2.getD (v24).toNat ((0 : Int), ([] : (List Int)))).1)))))) ∧ (InR (sv4.length : Int) ∧ (inIdx (mplace sv4 (fromv, tov)) (mtouch sv4 (fromv, tov) (0 : Int)).length ∧ VC45_k5 tov X4 true (mputAt (mtouch sv4 (fromv, tov) (0 : Int)) ((mplace sv4 (fromv, tov))).toNat (bOr .u32 ((mget (mtouch sv4 (fromv, tov) (0 : Int)) (fromv, tov)).getD (0 : Int)) (bShl .u32 (1 : Int) ((g.2.2.2.getD (v24).toNat ((0 : Int), ([] : (List Int)))).1))))))))) ∧ ((ret47v && (!ret54v)) = false → VC45_k5 tov X4 grown4 sv4))))) ∧ ((decide (tov ≤ (w.length : Int))) = false → VC45_k4 v24 X3 grown4 sv4))

def VC45_l3 (g : (Int × (Int × (Int × (List (Int × (List Int))))))) (w : (List Int)) (fromv : Int) (X2 : Bool × Int × (List ((Int × Int) × Int)) → Prop) (grown3 : Bool) (v24 : Int) (sv3 : (List ((Int × Int) × Int))) (X3 : Bool × Int × (List ((Int × Int) × Int)) → Prop) : Prop :=
  (((decide (v24 < (g.2.2.2.length : Int))) = true → (inIdx v24 g.2.2.2.length ∧ VC76 sv3 g w ((g.2.2.2.getD (v24).toNat ((0 : Int), ([] : (List Int)))).2) fromv (fun (ret34v : Int) => Loop (σ := Bool × Int × (List ((Int × Int) × Int))) (fun s X => VC45_l4 g w fromv v24 X3 ret34v s.1 s.2.1 s.2.2 X) (grown3, fromv, sv3)))) ∧ ((decide (v24 < (g.2.2.2.length : Int))) = false → VC45_k3 fromv X2 grown3 sv3))

def VC45_l2 (g : (Int × (Int × (Int × (List (Int × (List Int))))))) (w : (List Int)) (X1 : Bool × (List ((Int × Int) × Int)) → Prop) (grown2 : Bool) (fromv : Int) (sv2 : (List ((Int × Int) × Int))) (X2 : Bool × Int × (List ((Int × Int) × Int)) → Prop) : Prop :=
  (((decide ((0 : Int) ≤ fromv)) = true → Loop (σ := Bool × Int × (List ((Int × Int) × Int))) (fun s X => VC45_l3 g w fromv X2 s.1 s.2.1 s.2.2 X) (grown2, (0 : Int), sv2)) ∧ ((decide ((0 : Int) ≤ fromv)) = false → VC45_k2 X1 grown2 sv2))

def VC45_l1 (g : (Int × (Int × (Int × (List (Int × (List Int))))))) (w : (List Int)) (K : (List ((Int × Int) × Int)) → Prop) (grown : Bool) (sv : (List ((Int × Int) × Int))) (X1 : Bool × (List ((Int × Int) × Int)) → Prop) : Prop :=
  ((grown = true → Loop (σ := Bool × Int × (List ((Int × Int) × Int))) (fun s X => VC45_l2 g w X1 s.1 s.2.1 s.2.2 X) (false, (w.length : Int), sv)) ∧ (grown = false → VC45_k1 K sv))

def VC45 (g : (Int × (Int × (Int × (List (Int × (List Int))))))) (w : (List Int)) (K : (List ((Int × Int) × Int)) → Prop) : Prop :=
  Loop (σ := Bool × (List ((Int × Int) × Int))) (fun s X => VC45_l1 g w K s.1 s.2 X) (true, ([] : List ((Int × Int) × Int)))

set_option maxHeartbeats 4000000 in
theorem link45 (g : (Int × (Int × (Int × (List (Int × (List Int))))))) (w : (List Int)) (K : (List ((Int × Int) × Int)) → Prop) (h : VC45 g w K) : ACalls Try.prog 45 [toV1 (.pr (.int .i64) (.pr (.int .i64) (.pr (.int .i64) (.sl (.pr (.int .i64) (.sl (.int .i64))))))) g, toV1 (.sl (.int .i64)) w] (fun res => ∃ y, res = (fun y => [toV1 (.mp (.pr (.int .i64) (.int .i64)) (.int .u32)) y]) y ∧ K y) := by
  refine acalls_of_aw [(.mp (.pr (.int .i64) (.int .i64)) (.int .u32))] [.t 4] Try.func45 rfl rfl rfl ?_
  unfold VC45 at h
  refine aw_seq ?_
  refine aw_region ?_
  refine awl_runp 2 [1, 2] [2] (ob := (True ∧ True ∧ True)) (st' := (⟨68, [(1, [], .v (.c (.p (.sl (.int .i64)) w))), (2, [], .v (.c (.ptr 2 0)))], [(2, [], .box [.p (.int .i64) g.1, .p (.int .i64) g.2.1, .p (.int .i64) g.2.2.1, .p (.sl (.pr (.int .i64) (.sl (.int .i64)))) g.2.2.2])]⟩ : St)) (by kernel_rfl) ⟨trivial, trivial, trivial⟩ ?_
  refine awl_nil ?_
  refine thenQ_n ?_
  refine aw_seq ?_
  refine aw_region ?_
  refine awl_runp 2 [1, 2, 5] [2, 13] (ob := (True ∧ True ∧ True)) (st' := (⟨68, [(1, [], .v (.c (.p (.sl (.int .i64)) w))), (2, [], .v (.c (.ptr 2 0))), (5, [], .v (.c (.own 13)))], [(2, [], .box [.p (.int .i64) g.1, .p (.int .i64) g.2.1, .p (.int .i64) g.2.2.1, .p (.sl (.pr (.int .i64) (.sl (.int .i64)))) g.2.2.2]), (13, [], .dict (.pr (.int .i64) (.int .i64)) (.int .u32) ([] : List ((Int × Int) × Int)))]⟩ : St)) (by kernel_rfl) ⟨trivial, trivial, trivial⟩ ?_
  refine awl_nil ?_
  refine thenQ_n ?_
  refine aw_seq ?_
  refine aw_seq ?_
  refine aw_region ?_
  refine awl_runp 1 [1, 2, 5, 6] [2, 13] (ob := (True ∧ True)) (st' := (⟨68, [(1, [], .v (.c (.p (.sl (.int .i64)) w))), (2, [], .v (.c (.ptr 2 0))), (5, [], .v (.c (.own 13))), (6, [], .v (.c (.p .bool true)))], [(2, [], .box [.p (.int .i64) g.1, .p (.int .i64) g.2.1, .p (.int .i64) g.2.2.1, .p (.sl (.pr (.int .i64) (.sl (.int .i64)))) g.2.2.2]), (13, [], .dict (.pr (.int .i64) (.int .i64)) (.int .u32) ([] : List ((Int × Int) × Int)))]⟩ : St)) (by kernel_rfl) ⟨trivial, trivial⟩ ?_
  refine awl_nil ?_
  refine thenQ_n ?_
  refine withJoin (σ := (List ((Int × Int) × Int))) (fun s => (⟨68, [(5, [], .v (.c (.own 13)))], [(13, [], .dict (.pr (.int .i64) (.int .i64)) (.int .u32) s)]⟩ : St)) (fun s => VC45_k1 K s) (fun sv h => ?_) (fun rest1 => ?_)
  · have h : VC45_k1 K sv := h
    unfold VC45_k1 at h
    refine thenQ_n ?_
    refine aw_seq ?_
    refine aw_region ?_
    refine awl_runp 2 [4] [13] (ob := (True ∧ True ∧ True)) (st' := (⟨68, [(4, [], .v (.c (.own 13)))], [(13, [], .dict (.pr (.int .i64) (.int .i64)) (.int .u32) sv)]⟩ : St)) (by kernel_rfl) ⟨trivial, trivial, trivial⟩ ?_
    refine awl_nil ?_
    refine thenQ_n ?_
    refine aw_conv [.freeze 13] (st' := (⟨68, [(4, [], .v (.c (.p (.mp (.pr (.int .i64) (.int .i64)) (.int .u32)) sv)))], []⟩ : St)) (by kernel_rfl) ?_
    refine aw_ret ?_
    exact retQ_r (σ := (List ((Int × Int) × Int))) (R := (fun y => [toV1 (.mp (.pr (.int .i64) (.int .i64)) (.int .u32)) y])) (ob := (True ∧ True)) sv (by kernel_rfl) ⟨trivial, trivial⟩ h
  · refine aw_block ?_
    refine aw_loop (σ := Bool × (List ((Int × Int) × Int))) (fun s => (⟨68, [(1, [], .v (.c (.p (.sl (.int .i64)) w))), (2, [], .v (.c (.ptr 2 0))), (5, [], .v (.c (.own 13))), (6, [], .v (.c (.p .bool s.1)))], [(2, [], .box [.p (.int .i64) g.1, .p (.int .i64) g.2.1, .p (.int .i64) g.2.2.1, .p (.sl (.pr (.int .i64) (.sl (.int .i64)))) g.2.2.2]), (13, [], .dict (.pr (.int .i64) (.int .i64)) (.int .u32) s.2)]⟩ : St)) (fun s X => VC45_l1 g w K s.1 s.2 X) (s0 := (true, ([] : List ((Int × Int) × Int)))) (fun s X1 h => ?_) h
    obtain ⟨grown, sv⟩ := s
    have h : VC45_l1 g w K grown sv X1 := h
    unfold VC45_l1 at h
    refine aw_seq ?_
    refine aw_seq ?_
    refine aw_region ?_
    refine awl_runp 1 [1, 2, 5, 14] [2, 13] (ob := (True ∧ True)) (st' := (⟨68, [(1, [], .v (.c (.p (.sl (.int .i64)) w))), (2, [], .v (.c (.ptr 2 0))), (5, [], .v (.c (.own 13))), (14, [], .v (.c (.p .bool grown)))], [(2, [], .box [.p (.int .i64) g.1, .p (.int .i64) g.2.1, .p (.int .i64) g.2.2.1, .p (.sl (.pr (.int .i64) (.sl (.int .i64)))) g.2.2.2]), (13, [], .dict (.pr (.int .i64) (.int .i64)) (.int .u32) sv)]⟩ : St)) (by kernel_rfl) ⟨trivial, trivial⟩ ?_
    refine awl_nil ?_
    refine thenQ_n ?_
    refine aw_cond (b := grown) (by kernel_rfl) (fun hb => ?_) (fun hb => ?_)
    · have h := h.1 hb
      refine aw_skip ?_
      refine thenQ_n ?_
      refine aw_block ?_
      refine aw_seq ?_
      refine aw_region ?_
      refine awl_runp 1 [1, 2, 5, 6] [2, 13] (ob := (True ∧ True)) (st' := (⟨68, [(1, [], .v (.c (.p (.sl (.int .i64)) w))), (2, [], .v (.c (.ptr 2 0))), (5, [], .v (.c (.own 13))), (6, [], .v (.c (.p .bool false)))], [(2, [], .box [.p (.int .i64) g.1, .p (.int .i64) g.2.1, .p (.int .i64) g.2.2.1, .p (.sl (.pr (.int .i64) (.sl (.int .i64)))) g.2.2.2]), (13, [], .dict (.pr (.int .i64) (.int .i64)) (.int .u32) sv)]⟩ : St)) (by kernel_rfl) ⟨trivial, trivial⟩ ?_
      refine awl_nil ?_
      refine thenQ_n ?_
      refine aw_seq ?_
      refine aw_region ?_
      refine awl_runp 3 [1, 2, 5, 6, 7] [2, 13] (ob := (True ∧ True ∧ True ∧ True)) (st' := (⟨68, [(1, [], .v (.c (.p (.sl (.int .i64)) w))), (2, [], .v (.c (.ptr 2 0))), (5, [], .v (.c (.own 13))), (6, [], .v (.c (.p .bool false))), (7, [], .v (.c (.p (.int .i64) (w.length : Int))))], [(2, [], .box [.p (.int .i64) g.1, .p (.int .i64) g.2.1, .p (.int .i64) g.2.2.1, .p (.sl (.pr (.int .i64) (.sl (.int .i64)))) g.2.2.2]), (13, [], .dict (.pr (.int .i64) (.int .i64)) (.int .u32) sv)]⟩ : St)) (by kernel_rfl) ⟨trivial, trivial, trivial, trivial⟩ ?_
      refine awl_nil ?_
      refine thenQ_n ?_
      refine withJoin (σ := Bool × (List ((Int × Int) × Int))) (fun s => (⟨68, [(1, [], .v (.c (.p (.sl (.int .i64)) w))), (2, [], .v (.c (.ptr 2 0))), (5, [], .v (.c (.own 13))), (6, [], .v (.c (.p .bool s.1)))], [(2, [], .box [.p (.int .i64) g.1, .p (.int .i64) g.2.1, .p (.int .i64) g.2.2.1, .p (.sl (.pr (.int .i64) (.sl (.int .i64)))) g.2.2.2]), (13, [], .dict (.pr (.int .i64) (.int .i64)) (.int .u32) s.2)]⟩ : St)) (fun s => VC45_k2 X1 s.1 s.2) (fun s h => ?_) (fun rest2 => ?_)
      · obtain ⟨grown2, sv2⟩ := s
        have h : VC45_k2 X1 grown2 sv2 := h
        unfold VC45_k2 at h
        refine blockQ_n ?_
        exact thenQ_n ⟨(grown2, sv2), rfl, h⟩
      · refine aw_block ?_
        refine aw_loop (σ := Bool × Int × (List ((Int × Int) × Int))) (fun s => (⟨68, [(1, [], .v (.c (.p (.sl (.int .i64)) w))), (2, [], .v (.c (.ptr 2 0))), (5, [], .v (.c (.own 13))), (6, [], .v (.c (.p .bool s.1))), (7, [], .v (.c (.p (.int .i64) s.2.1)))], [(2, [], .box [.p (.int .i64) g.1, .p (.int .i64) g.2.1, .p (.int .i64) g.2.2.1, .p (.sl (.pr (.int .i64) (.sl (.int .i64)))) g.2.2.2]), (13, [], .dict (.pr (.int .i64) (.int .i64)) (.int .u32) s.2.2)]⟩ : St)) (fun s X => VC45_l2 g w X1 s.1 s.2.1 s.2.2 X) (s0 := (false, (w.length : Int), sv)) (fun s X2 h => ?_) h
        obtain ⟨grown2, fromv, sv2⟩ := s
        have h : VC45_l2 g w X1 grown2 fromv sv2 X2 := h
        unfold VC45_l2 at h
        refine aw_seq ?_
        refine aw_seq ?_
        refine aw_region ?_
        refine awl_runp 2 [1, 2, 5, 6, 7, 18] [2, 13] (ob := (True ∧ True ∧ True)) (st' := (⟨68, [(1, [], .v (.c (.p (.sl (.int .i64)) w))), (2, [], .v (.c (.ptr 2 0))), (5, [], .v (.c (.own 13))), (6, [], .v (.c (.p .bool grown2))), (7, [], .v (.c (.p (.int .i64) fromv))), (18, [], .v (.c (.p .bool (decide ((0 : Int) ≤ fromv)))))], [(2, [], .box [.p (.int .i64) g.1, .p (.int .i64) g.2.1, .p (.int .i64) g.2.2.1, .p (.sl (.pr (.int .i64) (.sl (.int .i64)))) g.2.2.2]), (13, [], .dict (.pr (.int .i64) (.int .i64)) (.int .u32) sv2)]⟩ : St)) (by kernel_rfl) ⟨trivial, trivial, trivial⟩ ?_
        refine awl_nil ?_
        refine thenQ_n ?_
        refine aw_cond (b := (decide ((0 : Int) ≤ fromv))) (by kernel_rfl) (fun hb => ?_) (fun hb => ?_)
        · have h := h.1 hb
          refine aw_skip ?_
          refine thenQ_n ?_
          refine aw_seq ?_
          refine aw_block ?_
          refine aw_seq ?_
          refine aw_region ?_
          refine awl_runp 4 [1, 2, 5, 6, 7, 22, 23, 24] [2, 13] (ob := (True ∧ True ∧ True ∧ True ∧ True)) (st' := (⟨68, [(1, [], .v (.c (.p (.sl (.int .i64)) w))), (2, [], .v (.c (.ptr 2 0))), (5, [], .v (.c (.own 13))), (6, [], .v (.c (.p .bool grown2))), (7, [], .v (.c (.p (.int .i64) fromv))), (22, [], .v (.c (.p (.sl (.pr (.int .i64) (.sl (.int .i64)))) g.2.2.2))), (23, [], .v (.c (.p (.int .i64) (g.2.2.2.length : Int)))), (24, [], .v (.c (.p (.int .i64) (0 : Int))))], [(2, [], .box [.p (.int .i64) g.1, .p (.int .i64) g.2.1, .p (.int .i64) g.2.2.1, .p (.sl (.pr (.int .i64) (.sl (.int .i64)))) g.2.2.2]), (13, [], .dict (.pr (.int .i64) (.int .i64)) (.int .u32) sv2)]⟩ : St)) (by kernel_rfl) ⟨trivial, trivial, trivial, trivial, trivial⟩ ?_
          refine awl_nil ?_
          refine thenQ_n ?_
          refine withJoin (σ := Bool × (List ((Int × Int) × Int))) (fun s => (⟨68, [(1, [], .v (.c (.p (.sl (.int .i64)) w))), (2, [], .v (.c (.ptr 2 0))), (5, [], .v (.c (.own 13))), (6, [], .v (.c (.p .bool s.1))), (7, [], .v (.c (.p (.int .i64) fromv)))], [(2, [], .box [.p (.int .i64) g.1, .p (.int .i64) g.2.1, .p (.int .i64) g.2.2.1, .p (.sl (.pr (.int .i64) (.sl (.int .i64)))) g.2.2.2]), (13, [], .dict (.pr (.int .i64) (.int .i64)) (.int .u32) s.2)]⟩ : St)) (fun s => VC45_k3 fromv X2 s.1 s.2) (fun s h => ?_) (fun rest3 => ?_)
          · obtain ⟨grown3, sv3⟩ := s
            have h : VC45_k3 fromv X2 grown3 sv3 := h
            unfold VC45_k3 at h
            refine blockQ_n ?_
            refine thenQ_n ?_
            refine aw_region ?_
            obtain ⟨o1, h⟩ := h
            refine awl_runp 3 [1, 2, 5, 6, 7] [2, 13] (ob := (True ∧ InR (fromv - (1 : Int)) ∧ True ∧ True)) (st' := (⟨68, [(1, [], .v (.c (.p (.sl (.int .i64)) w))), (2, [], .v (.c (.ptr 2 0))), (5, [], .v (.c (.own 13))), (6, [], .v (.c (.p .bool grown3))), (7, [], .v (.c (.p (.int .i64) (fromv - (1 : Int)))))], [(2, [], .box [.p (.int .i64) g.1, .p (.int .i64) g.2.1, .p (.int .i64) g.2.2.1, .p (.sl (.pr (.int .i64) (.sl (.int .i64)))) g.2.2.2]), (13, [], .dict (.pr (.int .i64) (.int .i64)) (.int .u32) sv3)]⟩ : St)) (by kernel_rfl) ⟨trivial, o1, trivial, trivial⟩ ?_
            refine awl_nil ?_
            exact thenQ_n ⟨(grown3, (fromv - (1 : Int)), sv3), rfl, h⟩
          · refine aw_block ?_
            refine aw_loop (σ := Bool × Int × (List ((Int × Int) × Int))) (fun s => (⟨68, [(1, [], .v (.c (.p (.sl (.int .i64)) w))), (2, [], .v (.c (.ptr 2 0))), (5, [], .v (.c (.own 13))), (6, [], .v (.c (.p .bool s.1))), (7, [], .v (.c (.p (.int .i64) fromv))), (22, [], .v (.c (.p (.sl (.pr (.int .i64) (.sl (.int .i64)))) g.2.2.2))), (23, [], .v (.c (.p (.int .i64) (g.2.2.2.length : Int)))), (24, [], .v (.c (.p (.int .i64) s.2.1)))], [(2, [], .box [.p (.int .i64) g.1, .p (.int .i64) g.2.1, .p (.int .i64) g.2.2.1, .p (.sl (.pr (.int .i64) (.sl (.int .i64)))) g.2.2.2]), (13, [], .dict (.pr (.int .i64) (.int .i64)) (.int .u32) s.2.2)]⟩ : St)) (fun s X => VC45_l3 g w fromv X2 s.1 s.2.1 s.2.2 X) (s0 := (grown2, (0 : Int), sv2)) (fun s X3 h => ?_) h
            obtain ⟨grown3, v24, sv3⟩ := s
            have h : VC45_l3 g w fromv X2 grown3 v24 sv3 X3 := h
            unfold VC45_l3 at h
            refine aw_seq ?_
            refine aw_region ?_
            refine awl_runp 1 [1, 2, 5, 6, 7, 22, 23, 24, 25] [2, 13] (ob := (True ∧ True)) (st' := (⟨68, [(1, [], .v (.c (.p (.sl (.int .i64)) w))), (2, [], .v (.c (.ptr 2 0))), (5, [], .v (.c (.own 13))), (6, [], .v (.c (.p .bool grown3))), (7, [], .v (.c (.p (.int .i64) fromv))), (22, [], .v (.c (.p (.sl (.pr (.int .i64) (.sl (.int .i64)))) g.2.2.2))), (23, [], .v (.c (.p (.int .i64) (g.2.2.2.length : Int)))), (24, [], .v (.c (.p (.int .i64) v24))), (25, [], .v (.c (.p .bool (decide (v24 < (g.2.2.2.length : Int))))))], [(2, [], .box [.p (.int .i64) g.1, .p (.int .i64) g.2.1, .p (.int .i64) g.2.2.1, .p (.sl (.pr (.int .i64) (.sl (.int .i64)))) g.2.2.2]), (13, [], .dict (.pr (.int .i64) (.int .i64)) (.int .u32) sv3)]⟩ : St)) (by kernel_rfl) ⟨trivial, trivial⟩ ?_
            refine awl_nil ?_
            refine thenQ_n ?_
            refine aw_seq ?_
            refine aw_cond (b := (decide (v24 < (g.2.2.2.length : Int)))) (by kernel_rfl) (fun hb => ?_) (fun hb => ?_)
            · have h := h.1 hb
              refine aw_skip ?_
              refine thenQ_n ?_
              refine aw_seq ?_
              refine aw_block ?_
              refine aw_seq ?_
              refine aw_region ?_
              obtain ⟨o1, h⟩ := h
              refine awl_runp 4 [1, 2, 5, 6, 7, 9, 22, 23, 24] [2, 9, 13] (ob := (inIdx v24 g.2.2.2.length ∧ True ∧ True ∧ True ∧ True)) (st' := (⟨68, [(1, [], .v (.c (.p (.sl (.int .i64)) w))), (2, [], .v (.c (.ptr 2 0))), (5, [], .v (.c (.own 13))), (6, [], .v (.c (.p .bool grown3))), (7, [], .v (.c (.p (.int .i64) fromv))), (9, [], .v (.c (.ptr 9 0))), (22, [], .v (.c (.p (.sl (.pr (.int .i64) (.sl (.int .i64)))) g.2.2.2))), (23, [], .v (.c (.p (.int .i64) (g.2.2.2.length : Int)))), (24, [], .v (.c (.p (.int .i64) v24)))], [(2, [], .box [.p (.int .i64) g.1, .p (.int .i64) g.2.1, .p (.int .i64) g.2.2.1, .p (.sl (.pr (.int .i64) (.sl (.int .i64)))) g.2.2.2]), (9, [], .box [.p (.int .i64) ((g.2.2.2.getD (v24).toNat ((0 : Int), ([] : (List Int)))).1), .p (.sl (.int .i64)) ((g.2.2.2.getD (v24).toNat ((0 : Int), ([] : (List Int)))).2)]), (13, [], .dict (.pr (.int .i64) (.int .i64)) (.int .u32) sv3)]⟩ : St)) (by kernel_rfl) ⟨o1, trivial, trivial, trivial, trivial⟩ ?_
              refine awl_nil ?_
              refine thenQ_n ?_
              refine aw_seq ?_
              refine aw_region ?_
              refine awl_runp 6 [1, 2, 5, 6, 7, 9, 22, 23, 24, 28, 29, 30, 32, 33] [2, 9, 13] (ob := (True ∧ True ∧ True ∧ True ∧ True ∧ True ∧ True)) (st' := (⟨68, [(1, [], .v (.c (.p (.sl (.int .i64)) w))), (2, [], .v (.c (.ptr 2 0))), (5, [], .v (.c (.own 13))), (6, [], .v (.c (.p .bool grown3))), (7, [], .v (.c (.p (.int .i64) fromv))), (9, [], .v (.c (.ptr 9 0))), (22, [], .v (.c (.p (.sl (.pr (.int .i64) (.sl (.int .i64)))) g.2.2.2))), (23, [], .v (.c (.p (.int .i64) (g.2.2.2.length : Int)))), (24, [], .v (.c (.p (.int .i64) v24))), (28, [], .v (.c (.own 13))), (29, [], .v (.agg [.p (.int .i64) g.1, .p (.int .i64) g.2.1, .p (.int .i64) g.2.2.1, .p (.sl (.pr (.int .i64) (.sl (.int .i64)))) g.2.2.2])), (30, [], .v (.c (.p (.sl (.int .i64)) w))), (32, [], .v (.c (.p (.sl (.int .i64)) ((g.2.2.2.getD (v24).toNat ((0 : Int), ([] : (List Int)))).2)))), (33, [], .v (.c (.p (.int .i64) fromv)))], [(2, [], .box [.p (.int .i64) g.1, .p (.int .i64) g.2.1, .p (.int .i64) g.2.2.1, .p (.sl (.pr (.int .i64) (.sl (.int .i64)))) g.2.2.2]), (9, [], .box [.p (.int .i64) ((g.2.2.2.getD (v24).toNat ((0 : Int), ([] : (List Int)))).1), .p (.sl (.int .i64)) ((g.2.2.2.getD (v24).toNat ((0 : Int), ([] : (List Int)))).2)]), (13, [], .dict (.pr (.int .i64) (.int .i64)) (.int .u32) sv3)]⟩ : St)) (by kernel_rfl) ⟨trivial, trivial, trivial, trivial, trivial, trivial, trivial⟩ ?_
              refine awl_callk (p := []) (l := [toV1 (.mp (.pr (.int .i64) (.int .i64)) (.int .u32)) sv3, toV1 (.pr (.int .i64) (.pr (.int .i64) (.pr (.int .i64) (.sl (.pr (.int .i64) (.sl (.int .i64))))))) g, toV1 (.sl (.int .i64)) w, toV1 (.sl (.int .i64)) ((g.2.2.2.getD (v24).toNat ((0 : Int), ([] : (List Int)))).2), toV1 (.int .i64) fromv]) (cl := []) true [.d (.mp (.pr (.int .i64) (.int .i64)) (.int .u32)), .d (.pr (.int .i64) (.pr (.int .i64) (.pr (.int .i64) (.sl (.pr (.int .i64) (.sl (.int .i64))))))), .d (.sl (.int .i64)), .d (.sl (.int .i64)), .d (.int .i64)] [1, 2, 5, 6, 7, 9, 22, 23, 24, 34] [2, 9, 13] (fun (ret34v : Int) => Loop (σ := Bool × Int × (List ((Int × Int) × Int))) (fun s X => VC45_l4 g w fromv v24 X3 ret34v s.1 s.2.1 s.2.2 X) (grown3, fromv, sv3)) (fun ret34v => [toV1 (.int .u32) ret34v]) (fun ret34v => (⟨68, [(1, [], .v (.c (.p (.sl (.int .i64)) w))), (2, [], .v (.c (.ptr 2 0))), (5, [], .v (.c (.own 13))), (6, [], .v (.c (.p .bool grown3))), (7, [], .v (.c (.p (.int .i64) fromv))), (9, [], .v (.c (.ptr 9 0))), (22, [], .v (.c (.p (.sl (.pr (.int .i64) (.sl (.int .i64)))) g.2.2.2))), (23, [], .v (.c (.p (.int .i64) (g.2.2.2.length : Int)))), (24, [], .v (.c (.p (.int .i64) v24))), (34, [], .v (.c (.p (.int .u32) ret34v)))], [(2, [], .box [.p (.int .i64) g.1, .p (.int .i64) g.2.1, .p (.int .i64) g.2.2.1, .p (.sl (.pr (.int .i64) (.sl (.int .i64)))) g.2.2.2]), (9, [], .box [.p (.int .i64) ((g.2.2.2.getD (v24).toNat ((0 : Int), ([] : (List Int)))).1), .p (.sl (.int .i64)) ((g.2.2.2.getD (v24).toNat ((0 : Int), ([] : (List Int)))).2)]), (13, [], .dict (.pr (.int .i64) (.int .i64)) (.int .u32) sv3)]⟩ : St)) (by kernel_rfl) rfl (by kernel_rfl) rfl (by kernel_rfl) Try.call76 (by kernel_rfl) (fun ret34v => by kernel_rfl) (fun _ _ => rfl) (fun hg => link76 sv3 g w ((g.2.2.2.getD (v24).toNat ((0 : Int), ([] : (List Int)))).2) fromv _ h) (fun hg => noF hg) (fun ret34v h => ?_)
              have h : Loop (σ := Bool × Int × (List ((Int × Int) × Int))) (fun s X => VC45_l4 g w fromv v24 X3 ret34v s.1 s.2.1 s.2.2 X) (grown3, fromv, sv3) := h
              refine awl_runp 1 [1, 2, 5, 6, 7, 9, 10, 22, 23, 24] [2, 9, 13] (ob := (True ∧ True)) (st' := (⟨68, [(1, [], .v (.c (.p (.sl (.int .i64)) w))), (2, [], .v (.c (.ptr 2 0))), (5, [], .v (.c (.own 13))), (6, [], .v (.c (.p .bool grown3))), (7, [], .v (.c (.p (.int .i64) fromv))), (9, [], .v (.c (.ptr 9 0))), (10, [], .v (.c (.p (.int .u32) ret34v))), (22, [], .v (.c (.p (.sl (.pr (.int .i64) (.sl (.int .i64)))) g.2.2.2))), (23, [], .v (.c (.p (.int .i64) (g.2.2.2.length : Int)))), (24, [], .v (.c (.p (.int .i64) v24)))], [(2, [], .box [.p (.int .i64) g.1, .p (.int .i64) g.2.1, .p (.int .i64) g.2.2.1, .p (.sl (.pr (.int .i64) (.sl (.int .i64)))) g.2.2.2]), (9, [], .box [.p (.int .i64) ((g.2.2.2.getD (v24).toNat ((0 : Int), ([] : (List Int)))).1), .p (.sl (.int .i64)) ((g.2.2.2.getD (v24).toNat ((0 : Int), ([] : (List Int)))).2)]), (13, [], .dict (.pr (.int .i64) (.int .i64)) (.int .u32) sv3)]⟩ : St)) (by kernel_rfl) ⟨trivial, trivial⟩ ?_
              refine awl_nil ?_
              refine thenQ_n ?_
              refine aw_seq ?_
              refine aw_region ?_
              refine awl_runp 2 [1, 2, 5, 6, 7, 9, 10, 11, 22, 23, 24] [2, 9, 13] (ob := (True ∧ True ∧ True)) (st' := (⟨68, [(1, [], .v (.c (.p (.sl (.int .i64)) w))), (2, [], .v (.c (.ptr 2 0))), (5, [], .v (.c (.own 13))), (6, [], .v (.c (.p .bool grown3))), (7, [], .v (.c (.p (.int .i64) fromv))), (9, [], .v (.c (.ptr 9 0))), (10, [], .v (.c (.p (.int .u32) ret34v))), (11, [], .v (.c (.p (.int .i64) fromv))), (22, [], .v (.c (.p (.sl (.pr (.int .i64) (.sl (.int .i64)))) g.2.2.2))), (23, [], .v (.c (.p (.int .i64) (g.2.2.2.length : Int)))), (24, [], .v (.c (.p (.int .i64) v24)))], [(2, [], .box [.p (.int .i64) g.1, .p (.int .i64) g.2.1, .p (.int .i64) g.2.2.1, .p (.sl (.pr (.int .i64) (.sl (.int .i64)))) g.2.2.2]), (9, [], .box [.p (.int .i64) ((g.2.2.2.getD (v24).toNat ((0 : Int), ([] : (List Int)))).1), .p (.sl (.int .i64)) ((g.2.2.2.getD (v24).toNat ((0 : Int), ([] : (List Int)))).2)]), (13, [], .dict (.pr (.int .i64) (.int .i64)) (.int .u32) sv3)]⟩ : St)) (by kernel_rfl) ⟨trivial, trivial, trivial⟩ ?_
              refine awl_nil ?_
              refine thenQ_n ?_
              refine withJoin (σ := Bool × (List ((Int × Int) × Int))) (fun s => (⟨68, [(1, [], .v (.c (.p (.sl (.int .i64)) w))), (2, [], .v (.c (.ptr 2 0))), (5, [], .v (.c (.own 13))), (6, [], .v (.c (.p .bool s.1))), (7, [], .v (.c (.p (.int .i64) fromv))), (22, [], .v (.c (.p (.sl (.pr (.int .i64) (.sl (.int .i64)))) g.2.2.2))), (23, [], .v (.c (.p (.int .i64) (g.2.2.2.length : Int)))), (24, [], .v (.c (.p (.int .i64) v24)))], [(2, [], .box [.p (.int .i64) g.1, .p (.int .i64) g.2.1, .p (.int .i64) g.2.2.1, .p (.sl (.pr (.int .i64) (.sl (.int .i64)))) g.2.2.2]), (13, [], .dict (.pr (.int .i64) (.int .i64)) (.int .u32) s.2)]⟩ : St)) (fun s => VC45_k4 v24 X3 s.1 s.2) (fun s h => ?_) (fun rest4 => ?_)
              · obtain ⟨grown4, sv4⟩ := s
                have h : VC45_k4 v24 X3 grown4 sv4 := h
                unfold VC45_k4 at h
                refine blockQ_n ?_
                refine thenQ_n ?_
                refine aw_region ?_
                obtain ⟨o1, h⟩ := h
                refine awl_runp 2 [1, 2, 5, 6, 7, 22, 23, 24] [2, 13] (ob := (InR (v24 + (1 : Int)) ∧ True ∧ True)) (st' := (⟨68, [(1, [], .v (.c (.p (.sl (.int .i64)) w))), (2, [], .v (.c (.ptr 2 0))), (5, [], .v (.c (.own 13))), (6, [], .v (.c (.p .bool grown4))), (7, [], .v (.c (.p (.int .i64) fromv))), (22, [], .v (.c (.p (.sl (.pr (.int .i64) (.sl (.int .i64)))) g.2.2.2))), (23, [], .v (.c (.p (.int .i64) (g.2.2.2.length : Int)))), (24, [], .v (.c (.p (.int .i64) (v24 + (1 : Int)))))], [(2, [], .box [.p (.int .i64) g.1, .p (.int .i64) g.2.1, .p (.int .i64) g.2.2.1, .p (.sl (.pr (.int .i64) (.sl (.int .i64)))) g.2.2.2]), (13, [], .dict (.pr (.int .i64) (.int .i64)) (.int .u32) sv4)]⟩ : St)) (by kernel_rfl) ⟨o1, trivial, trivial⟩ ?_
                refine awl_nil ?_
                exact thenQ_n ⟨(grown4, (v24 + (1 : Int)), sv4), rfl, h⟩
              · refine aw_block ?_
                refine aw_loop (σ := Bool × Int × (List ((Int × Int) × Int))) (fun s => (⟨68, [(1, [], .v (.c (.p (.sl (.int .i64)) w))), (2, [], .v (.c (.ptr 2 0))), (5, [], .v (.c (.own 13))), (6, [], .v (.c (.p .bool s.1))), (7, [], .v (.c (.p (.int .i64) fromv))), (9, [], .v (.c (.ptr 9 0))), (10, [], .v (.c (.p (.int .u32) ret34v))), (11, [], .v (.c (.p (.int .i64) s.2.1))), (22, [], .v (.c (.p (.sl (.pr (.int .i64) (.sl (.int .i64)))) g.2.2.2))), (23, [], .v (.c (.p (.int .i64) (g.2.2.2.length : Int)))), (24, [], .v (.c (.p (.int .i64) v24)))], [(2, [], .box [.p (.int .i64) g.1, .p (.int .i64) g.2.1, .p (.int .i64) g.2.2.1, .p (.sl (.pr (.int .i64) (.sl (.int .i64)))) g.2.2.2]), (9, [], .box [.p (.int .i64) ((g.2.2.2.getD (v24).toNat ((0 : Int), ([] : (List Int)))).1), .p (.sl (.int .i64)) ((g.2.2.2.getD (v24).toNat ((0 : Int), ([] : (List Int)))).2)]), (13, [], .dict (.pr (.int .i64) (.int .i64)) (.int .u32) s.2.2)]⟩ : St)) (fun s X => VC45_l4 g w fromv v24 X3 ret34v s.1 s.2.1 s.2.2 X) (s0 := (grown3, fromv, sv3)) (fun s X4 h => ?_) h
                obtain ⟨grown4, tov, sv4⟩ := s
                have h : VC45_l4 g w fromv v24 X3 ret34v grown4 tov sv4 X4 := h
                unfold VC45_l4 at h
                refine aw_seq ?_
                refine aw_seq ?_
                refine aw_region ?_
                refine awl_runp 4 [1, 2, 5, 6, 7, 9, 10, 11, 22, 23, 24, 39] [2, 9, 13] (ob := (True ∧ True ∧ True ∧ True ∧ True)) (st' := (⟨68, [(1, [], .v (.c (.p (.sl (.int .i64)) w))), (2, [], .v (.c (.ptr 2 0))), (5, [], .v (.c (.own 13))), (6, [], .v (.c (.p .bool grown4))), (7, [], .v (.c (.p (.int .i64) fromv))), (9, [], .v (.c (.ptr 9 0))), (10, [], .v (.c (.p (.int .u32) ret34v))), (11, [], .v (.c (.p (.int .i64) tov))), (22, [], .v (.c (.p (.sl (.pr (.int .i64) (.sl (.int .i64)))) g.2.2.2))), (23, [], .v (.c (.p (.int .i64) (g.2.2.2.length : Int)))), (24, [], .v (.c (.p (.int .i64) v24))), (39, [], .v (.c (.p .bool (decide (tov ≤ (w.length : Int))))))], [(2, [], .box [.p (.int .i64) g.1, .p (.int .i64) g.2.1, .p (.int .i64) g.2.2.1, .p (.sl (.pr (.int .i64) (.sl (.int .i64)))) g.2.2.2]), (9, [], .box [.p (.int .i64) ((g.2.2.2.getD (v24).toNat ((0 : Int), ([] : (List Int)))).1), .p (.sl (.int .i64)) ((g.2.2.2.getD (v24).toNat ((0 : Int), ([] : (List Int)))).2)]), (13, [], .dict (.pr (.int .i64) (.int .i64)) (.int .u32) sv4)]⟩ : St)) (by kernel_rfl) ⟨trivial, trivial, trivial, trivial, trivial⟩ ?_
                refine awl_nil ?_
                refine thenQ_n ?_
                refine aw_cond (b := (decide (tov ≤ (w.length : Int)))) (by kernel_rfl) (fun hb => ?_) (fun hb => ?_)
                · have h := h.1 hb
                  refine aw_skip ?_
                  refine thenQ_n ?_
                  refine aw_seq ?_
                  refine aw_block ?_
                  refine aw_seq ?_
                  refine aw_region ?_
                  refine awl_runp 5 [1, 2, 5, 6, 7, 9, 10, 11, 12, 22, 23, 24] [2, 9, 12, 13] (ob := (True ∧ True ∧ True ∧ True ∧ True ∧ True)) (st' := (⟨68, [(1, [], .v (.c (.p (.sl (.int .i64)) w))), (2, [], .v (.c (.ptr 2 0))), (5, [], .v (.c (.own 13))), (6, [], .v (.c (.p .bool grown4))), (7, [], .v (.c (.p (.int .i64) fromv))), (9, [], .v (.c (.ptr 9 0))), (10, [], .v (.c (.p (.int .u32) ret34v))), (11, [], .v (.c (.p (.int .i64) tov))), (12, [], .v (.c (.ptr 12 0))), (22, [], .v (.c (.p (.sl (.pr (.int .i64) (.sl (.int .i64)))) g.2.2.2))), (23, [], .v (.c (.p (.int .i64) (g.2.2.2.length : Int)))), (24, [], .v (.c (.p (.int .i64) v24)))], [(2, [], .box [.p (.int .i64) g.1, .p (.int .i64) g.2.1, .p (.int .i64) g.2.2.1, .p (.sl (.pr (.int .i64) (.sl (.int .i64)))) g.2.2.2]), (9, [], .box [.p (.int .i64) ((g.2.2.2.getD (v24).toNat ((0 : Int), ([] : (List Int)))).1), .p (.sl (.int .i64)) ((g.2.2.2.getD (v24).toNat ((0 : Int), ([] : (List Int)))).2)]), (12, [], .box [.p (.int .i64) fromv, .p (.int .i64) tov]), (13, [], .dict (.pr (.int .i64) (.int .i64)) (.int .u32) sv4)]⟩ : St)) (by kernel_rfl) ⟨trivial, trivial, trivial, trivial, trivial, trivial⟩ ?_
                  refine awl_nil ?_
                  refine thenQ_n ?_
                  refine aw_seq ?_
                  refine awd_begin [] (by kernel_rfl) ?_
                  refine awd_runp (by kernel_rfl) [0, 1] [1, 2, 5, 6, 7, 9, 10, 11, 12, 22, 23, 24, 45, 46] [2, 9, 12, 13] (ob := (True ∧ True ∧ True)) (done' := [1, 0]) (st' := (⟨68, [(1, [], .v (.c (.p (.sl (.int .i64)) w))), (2, [], .v (.c (.ptr 2 0))), (5, [], .v (.c (.own 13))), (6, [], .v (.c (.p .bool grown4))), (7, [], .v (.c (.p (.int .i64) fromv))), (9, [], .v (.c (.ptr 9 0))), (10, [], .v (.c (.p (.int .u32) ret34v))), (11, [], .v (.c (.p (.int .i64) tov))), (12, [], .v (.c (.ptr 12 0))), (22, [], .v (.c (.p (.sl (.pr (.int .i64) (.sl (.int .i64)))) g.2.2.2))), (23, [], .v (.c (.p (.int .i64) (g.2.2.2.length : Int)))), (24, [], .v (.c (.p (.int .i64) v24))), (45, [], .v (.c (.p (.int .u32) ret34v))), (46, [], .v (.c (.p (.int .i64) tov)))], [(2, [], .box [.p (.int .i64) g.1, .p (.int .i64) g.2.1, .p (.int .i64) g.2.2.1, .p (.sl (.pr (.int .i64) (.sl (.int .i64)))) g.2.2.2]), (9, [], .box [.p (.int .i64) ((g.2.2.2.getD (v24).toNat ((0 : Int), ([] : (List Int)))).1), .p (.sl (.int .i64)) ((g.2.2.2.getD (v24).toNat ((0 : Int), ([] : (List Int)))).2)]), (12, [], .box [.p (.int .i64) fromv, .p (.int .i64) tov]), (13, [], .dict (.pr (.int .i64) (.int .i64)) (.int .u32) sv4)]⟩ : St)) (by kernel_rfl) ⟨trivial, trivial, trivial⟩ ?_
                  refine awd_one (i := 2) (by kernel_rfl) ?_
                  refine adop_callk (p := []) (l := [toV1 (.int .u32) ret34v, toV1 (.int .i64) tov]) (cl := []) false [.d (.int .u32), .d (.int .i64)] [1, 2, 5, 6, 7, 9, 10, 11, 12, 22, 23, 24, 47] [2, 9, 12, 13] (fun (ret47v : Bool) => gcall (α := Bool) ret47v (VC47 ((mget sv4 (fromv, tov)).getD (0 : Int)) ((g.2.2.2.getD (v24).toNat ((0 : Int), ([] : (List Int)))).1)) false (fun (ret54v : Bool) => (((ret47v && (!ret54v)) = true → (0 ≤ (g.2.2.2.getD (v24).toNat ((0 : Int), ([] : (List Int)))).1 ∧ ((InR (sv4.length : Int) ∧ (inIdx (mplace sv4 (fromv, tov)) (mtouch sv4 (fromv, tov) (0 : Int)).length ∧ VC45_k5 tov X4 true (mputAt (mtouch sv4 (fromv, tov) (0 : Int)) ((mplace sv4 (fromv, tov))).toNat (bOr .u32 ((mget sv4 (fromv, tov)).getD (0 : Int)) (bShl .u32 (1 : Int) ((g.2.2.2.getD (v24).toNat ((0 : Int), ([] : (List Int)))).1)))))) ∧ (InR (sv4.length : Int) ∧ (inIdx (mplace sv4 (fromv, tov)) (mtouch sv4 (fromv, tov) (0 : Int)).length ∧ VC45_k5 tov X4 true (mputAt (mtouch sv4 (fromv, tov) (0 : Int)) ((mplace sv4 (fromv, tov))).toNat (bOr .u32 ((mget (mtouch sv4 (fromv, tov) (0 : Int)) (fromv, tov)).getD (0 : Int)) (bShl .u32 (1 : Int) ((g.2.2.2.getD (v24).toNat ((0 : Int), ([] : (List Int)))).1))))))))) ∧ ((ret47v && (!ret54v)) = false → VC45_k5 tov X4 grown4 sv4)))) (fun ret47v => [toV1 .bool ret47v]) (fun ret47v => (⟨68, [(1, [], .v (.c (.p (.sl (.int .i64)) w))), (2, [], .v (.c (.ptr 2 0))), (5, [], .v (.c (.own 13))), (6, [], .v (.c (.p .bool grown4))), (7, [], .v (.c (.p (.int .i64) fromv))), (9, [], .v (.c (.ptr 9 0))), (10, [], .v (.c (.p (.int .u32) ret34v))), (11, [], .v (.c (.p (.int .i64) tov))), (12, [], .v (.c (.ptr 12 0))), (22, [], .v (.c (.p (.sl (.pr (.int .i64) (.sl (.int .i64)))) g.2.2.2))), (23, [], .v (.c (.p (.int .i64) (g.2.2.2.length : Int)))), (24, [], .v (.c (.p (.int .i64) v24))), (47, [], .v (.c (.p .bool ret47v)))], [(2, [], .box [.p (.int .i64) g.1, .p (.int .i64) g.2.1, .p (.int .i64) g.2.2.1, .p (.sl (.pr (.int .i64) (.sl (.int .i64)))) g.2.2.2]), (9, [], .box [.p (.int .i64) ((g.2.2.2.getD (v24).toNat ((0 : Int), ([] : (List Int)))).1), .p (.sl (.int .i64)) ((g.2.2.2.getD (v24).toNat ((0 : Int), ([] : (List Int)))).2)]), (12, [], .box [.p (.int .i64) fromv, .p (.int .i64) tov]), (13, [], .dict (.pr (.int .i64) (.int .i64)) (.int .u32) sv4)]⟩ : St)) rfl (by kernel_rfl) rfl (by kernel_rfl) rfl (by kernel_rfl) Try.call47 (by kernel_rfl) (fun ret47v => by kernel_rfl) (fun e => by cases e) (fun hg => link47 ret34v tov _ h) (fun hg => noF hg) (fun ret47v h => ?_)
                  have h : gcall (α := Bool) ret47v (VC47 ((mget sv4 (fromv, tov)).getD (0 : Int)) ((g.2.2.2.getD (v24).toNat ((0 : Int), ([] : (List Int)))).1)) false (fun (ret54v : Bool) => (((ret47v && (!ret54v)) = true → (0 ≤ (g.2.2.2.getD (v24).toNat ((0 : Int), ([] : (List Int)))).1 ∧ ((InR (sv4.length : Int) ∧ (inIdx (mplace sv4 (fromv, tov)) (mtouch sv4 (fromv, tov) (0 : Int)).length ∧ VC45_k5 tov X4 true (mputAt (mtouch sv4 (fromv, tov) (0 : Int)) ((mplace sv4 (fromv, tov))).toNat (bOr .u32 ((mget sv4 (fromv, tov)).getD (0 : Int)) (bShl .u32 (1 : Int) ((g.2.2.2.getD (v24).toNat ((0 : Int), ([] : (List Int)))).1)))))) ∧ (InR (sv4.length : Int) ∧ (inIdx (mplace sv4 (fromv, tov)) (mtouch sv4 (fromv, tov) (0 : Int)).length ∧ VC45_k5 tov X4 true (mputAt (mtouch sv4 (fromv, tov) (0 : Int)) ((mplace sv4 (fromv, tov))).toNat (bOr .u32 ((mget (mtouch sv4 (fromv, tov) (0 : Int)) (fromv, tov)).getD (0 : Int)) (bShl .u32 (1 : Int) ((g.2.2.2.getD (v24).toNat ((0 : Int), ([] : (List Int)))).1))))))))) ∧ ((ret47v && (!ret54v)) = false → VC45_k5 tov X4 grown4 sv4))) := h
                  refine awd_runp (by kernel_rfl) [3, 4, 5, 6, 7, 8] [1, 2, 5, 6, 7, 9, 10, 11, 12, 22, 23, 24, 48, 51, 53] [2, 9, 12, 13] (ob := (True ∧ (ret47v = true → True) ∧ (ret47v = true → True) ∧ (ret47v = true → True) ∧ (ret47v = true → True) ∧ (ret47v = true → True) ∧ True)) (done' := [8, 7, 6, 5, 4, 3, 2, 1, 0]) (st' := (⟨68, [(1, [], .v (.c (.p (.sl (.int .i64)) w))), (2, [], .v (.c (.ptr 2 0))), (5, [], .v (.c (.own 13))), (6, [], .v (.c (.p .bool grown4))), (7, [], .v (.c (.p (.int .i64) fromv))), (9, [], .v (.c (.ptr 9 0))), (10, [], .v (.c (.p (.int .u32) ret34v))), (11, [], .v (.c (.p (.int .i64) tov))), (12, [], .v (.c (.ptr 12 0))), (22, [], .v (.c (.p (.sl (.pr (.int .i64) (.sl (.int .i64)))) g.2.2.2))), (23, [], .v (.c (.p (.int .i64) (g.2.2.2.length : Int)))), (24, [], .v (.c (.p (.int .i64) v24))), (48, [], .v (.c (.p .bool ret47v))), (51, [(48, true)], .v (.c (.p (.int .u32) ((mget sv4 (fromv, tov)).getD (0 : Int))))), (53, [(48, true)], .v (.c (.p (.int .i64) ((g.2.2.2.getD (v24).toNat ((0 : Int), ([] : (List Int)))).1))))], [(2, [], .box [.p (.int .i64) g.1, .p (.int .i64) g.2.1, .p (.int .i64) g.2.2.1, .p (.sl (.pr (.int .i64) (.sl (.int .i64)))) g.2.2.2]), (9, [], .box [.p (.int .i64) ((g.2.2.2.getD (v24).toNat ((0 : Int), ([] : (List Int)))).1), .p (.sl (.int .i64)) ((g.2.2.2.getD (v24).toNat ((0 : Int), ([] : (List Int)))).2)]), (12, [], .box [.p (.int .i64) fromv, .p (.int .i64) tov]), (13, [], .dict (.pr (.int .i64) (.int .i64)) (.int .u32) sv4)]⟩ : St)) (by kernel_rfl) ⟨trivial, (fun _ => trivial), (fun _ => trivial), (fun _ => trivial), (fun _ => trivial), (fun _ => trivial), trivial⟩ ?_
                  refine awd_one (i := 9) (by kernel_rfl) ?_
                  refine adop_callk (p := [(48, true)]) (l := [toV1 (.int .u32) ((mget sv4 (fromv, tov)).getD (0 : Int)), toV1 (.int .i64) ((g.2.2.2.getD (v24).toNat ((0 : Int), ([] : (List Int)))).1)]) (cl := []) false [.d (.int .u32), .d (.int .i64)] [1, 2, 5, 6, 7, 9, 10, 11, 12, 22, 23, 24, 48, 54] [2, 9, 12, 13] (fun (ret54v : Bool) => (((ret47v && (!ret54v)) = true → (0 ≤ (g.2.2.2.getD (v24).toNat ((0 : Int), ([] : (List Int)))).1 ∧ ((InR (sv4.length : Int) ∧ (inIdx (mplace sv4 (fromv, tov)) (mtouch sv4 (fromv, tov) (0 : Int)).length ∧ VC45_k5 tov X4 true (mputAt (mtouch sv4 (fromv, tov) (0 : Int)) ((mplace sv4 (fromv, tov))).toNat (bOr .u32 ((mget sv4 (fromv, tov)).getD (0 : Int)) (bShl .u32 (1 : Int) ((g.2.2.2.getD (v24).toNat ((0 : Int), ([] : (List Int)))).1)))))) ∧ (InR (sv4.length : Int) ∧ (inIdx (mplace sv4 (fromv, tov)) (mtouch sv4 (fromv, tov) (0 : Int)).length ∧ VC45_k5 tov X4 true (mputAt (mtouch sv4 (fromv, tov) (0 : Int)) ((mplace sv4 (fromv, tov))).toNat (bOr .u32 ((mget (mtouch sv4 (fromv, tov) (0 : Int)) (fromv, tov)).getD (0 : Int)) (bShl .u32 (1 : Int) ((g.2.2.2.getD (v24).toNat ((0 : Int), ([] : (List Int)))).1))))))))) ∧ ((ret47v && (!ret54v)) = false → VC45_k5 tov X4 grown4 sv4))) (fun ret54v => [toV1 .bool ret54v]) (fun ret54v => (⟨68, [(1, [], .v (.c (.p (.sl (.int .i64)) w))), (2, [], .v (.c (.ptr 2 0))), (5, [], .v (.c (.own 13))), (6, [], .v (.c (.p .bool grown4))), (7, [], .v (.c (.p (.int .i64) fromv))), (9, [], .v (.c (.ptr 9 0))), (10, [], .v (.c (.p (.int .u32) ret34v))), (11, [], .v (.c (.p (.int .i64) tov))), (12, [], .v (.c (.ptr 12 0))), (22, [], .v (.c (.p (.sl (.pr (.int .i64) (.sl (.int .i64)))) g.2.2.2))), (23, [], .v (.c (.p (.int .i64) (g.2.2.2.length : Int)))), (24, [], .v (.c (.p (.int .i64) v24))), (48, [], .v (.c (.p .bool ret47v))), (54, [(48, true)], .v (.c (.p .bool ret54v)))], [(2, [], .box [.p (.int .i64) g.1, .p (.int .i64) g.2.1, .p (.int .i64) g.2.2.1, .p (.sl (.pr (.int .i64) (.sl (.int .i64)))) g.2.2.2]), (9, [], .box [.p (.int .i64) ((g.2.2.2.getD (v24).toNat ((0 : Int), ([] : (List Int)))).1), .p (.sl (.int .i64)) ((g.2.2.2.getD (v24).toNat ((0 : Int), ([] : (List Int)))).2)]), (12, [], .box [.p (.int .i64) fromv, .p (.int .i64) tov]), (13, [], .dict (.pr (.int .i64) (.int .i64)) (.int .u32) sv4)]⟩ : St)) rfl (by kernel_rfl) rfl (by kernel_rfl) rfl (by kernel_rfl) Try.call47 (by kernel_rfl) (fun ret54v => by kernel_rfl) (fun e => by cases e) (fun hg => link47 ((mget sv4 (fromv, tov)).getD (0 : Int)) ((g.2.2.2.getD (v24).toNat ((0 : Int), ([] : (List Int)))).1) _ (by have := gcall_T h (show ret47v = true from hg); exact this)) (fun hg => ⟨false, by have := gcall_F h (show ret47v = false from hg); exact this⟩) (fun ret54v h => ?_)
                  have h : (((ret47v && (!ret54v)) = true → (0 ≤ (g.2.2.2.getD (v24).toNat ((0 : Int), ([] : (List Int)))).1 ∧ ((InR (sv4.length : Int) ∧ (inIdx (mplace sv4 (fromv, tov)) (mtouch sv4 (fromv, tov) (0 : Int)).length ∧ VC45_k5 tov X4 true (mputAt (mtouch sv4 (fromv, tov) (0 : Int)) ((mplace sv4 (fromv, tov))).toNat (bOr .u32 ((mget sv4 (fromv, tov)).getD (0 : Int)) (bShl .u32 (1 : Int) ((g.2.2.2.getD (v24).toNat ((0 : Int), ([] : (List Int)))).1)))))) ∧ (InR (sv4.length : Int) ∧ (inIdx (mplace sv4 (fromv, tov)) (mtouch sv4 (fromv, tov) (0 : Int)).length ∧ VC45_k5 tov X4 true (mputAt (mtouch sv4 (fromv, tov) (0 : Int)) ((mplace sv4 (fromv, tov))).toNat (bOr .u32 ((mget (mtouch sv4 (fromv, tov) (0 : Int)) (fromv, tov)).getD (0 : Int)) (bShl .u32 (1 : Int) ((g.2.2.2.getD (v24).toNat ((0 : Int), ([] : (List Int)))).1))))))))) ∧ ((ret47v && (!ret54v)) = false → VC45_k5 tov X4 grown4 sv4)) := h
                  refine awd_runp (by kernel_rfl) [10, 11] [1, 2, 5, 6, 7, 9, 10, 11, 12, 22, 23, 24, 56] [2, 9, 12, 13] (ob := ((ret47v = true → True) ∧ True ∧ True)) (done' := [11, 10, 9, 8, 7, 6, 5, 4, 3, 2, 1, 0]) (st' := (⟨68, [(1, [], .v (.c (.p (.sl (.int .i64)) w))), (2, [], .v (.c (.ptr 2 0))), (5, [], .v (.c (.own 13))), (6, [], .v (.c (.p .bool grown4))), (7, [], .v (.c (.p (.int .i64) fromv))), (9, [], .v (.c (.ptr 9 0))), (10, [], .v (.c (.p (.int .u32) ret34v))), (11, [], .v (.c (.p (.int .i64) tov))), (12, [], .v (.c (.ptr 12 0))), (22, [], .v (.c (.p (.sl (.pr (.int .i64) (.sl (.int .i64)))) g.2.2.2))), (23, [], .v (.c (.p (.int .i64) (g.2.2.2.length : Int)))), (24, [], .v (.c (.p (.int .i64) v24))), (56, [], .v (.c (.p .bool (ret47v && (!ret54v)))))], [(2, [], .box [.p (.int .i64) g.1, .p (.int .i64) g.2.1, .p (.int .i64) g.2.2.1, .p (.sl (.pr (.int .i64) (.sl (.int .i64)))) g.2.2.2]), (9, [], .box [.p (.int .i64) ((g.2.2.2.getD (v24).toNat ((0 : Int), ([] : (List Int)))).1), .p (.sl (.int .i64)) ((g.2.2.2.getD (v24).toNat ((0 : Int), ([] : (List Int)))).2)]), (12, [], .box [.p (.int .i64) fromv, .p (.int .i64) tov]), (13, [], .dict (.pr (.int .i64) (.int .i64)) (.int .u32) sv4)]⟩ : St)) (by kernel_rfl) ⟨(fun _ => trivial), trivial, trivial⟩ ?_
                  refine awd_done (by kernel_rfl) ?_
                  refine thenQ_n ?_
                  refine withJoin (σ := Bool × (List ((Int × Int) × Int))) (fun s => (⟨68, [(1, [], .v (.c (.p (.sl (.int .i64)) w))), (2, [], .v (.c (.ptr 2 0))), (5, [], .v (.c (.own 13))), (6, [], .v (.c (.p .bool s.1))), (7, [], .v (.c (.p (.int .i64) fromv))), (9, [], .v (.c (.ptr 9 0))), (10, [], .v (.c (.p (.int .u32) ret34v))), (11, [], .v (.c (.p (.int .i64) tov))), (22, [], .v (.c (.p (.sl (.pr (.int .i64) (.sl (.int .i64)))) g.2.2.2))), (23, [], .v (.c (.p (.int .i64) (g.2.2.2.length : Int)))), (24, [], .v (.c (.p (.int .i64) v24)))], [(2, [], .box [.p (.int .i64) g.1, .p (.int .i64) g.2.1, .p (.int .i64) g.2.2.1, .p (.sl (.pr (.int .i64) (.sl (.int .i64)))) g.2.2.2]), (9, [], .box [.p (.int .i64) ((g.2.2.2.getD (v24).toNat ((0 : Int), ([] : (List Int)))).1), .p (.sl (.int .i64)) ((g.2.2.2.getD (v24).toNat ((0 : Int), ([] : (List Int)))).2)]), (13, [], .dict (.pr (.int .i64) (.int .i64)) (.int .u32) s.2)]⟩ : St)) (fun s => VC45_k5 tov X4 s.1 s.2) (fun s h => ?_) (fun rest5 => ?_)
                  · obtain ⟨grown5, sv5⟩ := s
                    have h : VC45_k5 tov X4 grown5 sv5 := h
                    unfold VC45_k5 at h
                    refine blockQ_n ?_
                    refine thenQ_n ?_
                    refine aw_region ?_
                    obtain ⟨o1, h⟩ := h
                    refine awl_runp 3 [1, 2, 5, 6, 7, 9, 10, 11, 22, 23, 24] [2, 9, 13] (ob := (True ∧ InR (tov + (1 : Int)) ∧ True ∧ True)) (st' := (⟨68, [(1, [], .v (.c (.p (.sl (.int .i64)) w))), (2, [], .v (.c (.ptr 2 0))), (5, [], .v (.c (.own 13))), (6, [], .v (.c (.p .bool grown5))), (7, [], .v (.c (.p (.int .i64) fromv))), (9, [], .v (.c (.ptr 9 0))), (10, [], .v (.c (.p (.int .u32) ret34v))), (11, [], .v (.c (.p (.int .i64) (tov + (1 : Int))))), (22, [], .v (.c (.p (.sl (.pr (.int .i64) (.sl (.int .i64)))) g.2.2.2))), (23, [], .v (.c (.p (.int .i64) (g.2.2.2.length : Int)))), (24, [], .v (.c (.p (.int .i64) v24)))], [(2, [], .box [.p (.int .i64) g.1, .p (.int .i64) g.2.1, .p (.int .i64) g.2.2.1, .p (.sl (.pr (.int .i64) (.sl (.int .i64)))) g.2.2.2]), (9, [], .box [.p (.int .i64) ((g.2.2.2.getD (v24).toNat ((0 : Int), ([] : (List Int)))).1), .p (.sl (.int .i64)) ((g.2.2.2.getD (v24).toNat ((0 : Int), ([] : (List Int)))).2)]), (13, [], .dict (.pr (.int .i64) (.int .i64)) (.int .u32) sv5)]⟩ : St)) (by kernel_rfl) ⟨trivial, o1, trivial, trivial⟩ ?_
                    refine awl_nil ?_
                    exact thenQ_n ⟨(grown5, (tov + (1 : Int)), sv5), rfl, h⟩
                  · refine aw_cond (b := (ret47v && (!ret54v))) (by kernel_rfl) (fun hb => ?_) (fun hb => ?_)
                    · have h := h.1 hb
                      refine aw_seq ?_
                      refine awd_begin [13] (by kernel_rfl) ?_
                      obtain ⟨o1, h⟩ := h
                      refine awd_runp (by kernel_rfl) [0, 1, 3, 4, 5] [1, 2, 5, 7, 9, 10, 11, 22, 23, 24, 57, 58, 62] [2, 9, 13] (ob := (True ∧ True ∧ True ∧ True ∧ 0 ≤ (g.2.2.2.getD (v24).toNat ((0 : Int), ([] : (List Int)))).1 ∧ True)) (done' := [5, 4, 3, 1, 0]) (st' := (⟨68, [(1, [], .v (.c (.p (.sl (.int .i64)) w))), (2, [], .v (.c (.ptr 2 0))), (5, [], .v (.c (.own 13))), (7, [], .v (.c (.p (.int .i64) fromv))), (9, [], .v (.c (.ptr 9 0))), (10, [], .v (.c (.p (.int .u32) ret34v))), (11, [], .v (.c (.p (.int .i64) tov))), (22, [], .v (.c (.p (.sl (.pr (.int .i64) (.sl (.int .i64)))) g.2.2.2))), (23, [], .v (.c (.p (.int .i64) (g.2.2.2.length : Int)))), (24, [], .v (.c (.p (.int .i64) v24))), (57, [], .v (.c (.own 13))), (58, [], .v (.agg [.p (.int .i64) fromv, .p (.int .i64) tov])), (62, [], .v (.c (.p (.int .u32) (bShl .u32 (1 : Int) ((g.2.2.2.getD (v24).toNat ((0 : Int), ([] : (List Int)))).1)))))], [(2, [], .box [.p (.int .i64) g.1, .p (.int .i64) g.2.1, .p (.int .i64) g.2.2.1, .p (.sl (.pr (.int .i64) (.sl (.int .i64)))) g.2.2.2]), (9, [], .box [.p (.int .i64) ((g.2.2.2.getD (v24).toNat ((0 : Int), ([] : (List Int)))).1), .p (.sl (.int .i64)) ((g.2.2.2.getD (v24).toNat ((0 : Int), ([] : (List Int)))).2)]), (13, [], .dict (.pr (.int .i64) (.int .i64)) (.int .u32) sv4)]⟩ : St)) (by kernel_rfl) ⟨trivial, trivial, trivial, trivial, o1, trivial⟩ ?_
                      refine awd_two (i := 2) (j := 7) (by kernel_rfl) ?_ ?_
                      · have h := h.1
                        refine adop_stepp [1, 2, 5, 7, 9, 10, 11, 22, 23, 24, 57, 58, 59, 62] [2, 9, 13] (ob := True) (st' := (⟨68, [(1, [], .v (.c (.p (.sl (.int .i64)) w))), (2, [], .v (.c (.ptr 2 0))), (5, [], .v (.c (.own 13))), (7, [], .v (.c (.p (.int .i64) fromv))), (9, [], .v (.c (.ptr 9 0))), (10, [], .v (.c (.p (.int .u32) ret34v))), (11, [], .v (.c (.p (.int .i64) tov))), (22, [], .v (.c (.p (.sl (.pr (.int .i64) (.sl (.int .i64)))) g.2.2.2))), (23, [], .v (.c (.p (.int .i64) (g.2.2.2.length : Int)))), (24, [], .v (.c (.p (.int .i64) v24))), (57, [], .v (.c (.own 13))), (58, [], .v (.agg [.p (.int .i64) fromv, .p (.int .i64) tov])), (59, [], .v (.c (.p (.int .u32) ((mget sv4 (fromv, tov)).getD (0 : Int))))), (62, [], .v (.c (.p (.int .u32) (bShl .u32 (1 : Int) ((g.2.2.2.getD (v24).toNat ((0 : Int), ([] : (List Int)))).1)))))], [(2, [], .box [.p (.int .i64) g.1, .p (.int .i64) g.2.1, .p (.int .i64) g.2.2.1, .p (.sl (.pr (.int .i64) (.sl (.int .i64)))) g.2.2.2]), (9, [], .box [.p (.int .i64) ((g.2.2.2.getD (v24).toNat ((0 : Int), ([] : (List Int)))).1), .p (.sl (.int .i64)) ((g.2.2.2.getD (v24).toNat ((0 : Int), ([] : (List Int)))).2)]), (13, [], .dict (.pr (.int .i64) (.int .i64)) (.int .u32) sv4)]⟩ : St)) rfl (by kernel_rfl) trivial ?_
                        refine awd_runp (by kernel_rfl) [6] [1, 2, 5, 7, 9, 10, 11, 22, 23, 24, 57, 58, 63] [2, 9, 13] (ob := (True ∧ True)) (done' := [6, 2, 5, 4, 3, 1, 0]) (st' := (⟨68, [(1, [], .v (.c (.p (.sl (.int .i64)) w))), (2, [], .v (.c (.ptr 2 0))), (5, [], .v (.c (.own 13))), (7, [], .v (.c (.p (.int .i64) fromv))), (9, [], .v (.c (.ptr 9 0))), (10, [], .v (.c (.p (.int .u32) ret34v))), (11, [], .v (.c (.p (.int .i64) tov))), (22, [], .v (.c (.p (.sl (.pr (.int .i64) (.sl (.int .i64)))) g.2.2.2))), (23, [], .v (.c (.p (.int .i64) (g.2.2.2.length : Int)))), (24, [], .v (.c (.p (.int .i64) v24))), (57, [], .v (.c (.own 13))), (58, [], .v (.agg [.p (.int .i64) fromv, .p (.int .i64) tov])), (63, [], .v (.c (.p (.int .u32) (bOr .u32 ((mget sv4 (fromv, tov)).getD (0 : Int)) (bShl .u32 (1 : Int) ((g.2.2.2.getD (v24).toNat ((0 : Int), ([] : (List Int)))).1))))))], [(2, [], .box [.p (.int .i64) g.1, .p (.int .i64) g.2.1, .p (.int .i64) g.2.2.1, .p (.sl (.pr (.int .i64) (.sl (.int .i64)))) g.2.2.2]), (9, [], .box [.p (.int .i64) ((g.2.2.2.getD (v24).toNat ((0 : Int), ([] : (List Int)))).1), .p (.sl (.int .i64)) ((g.2.2.2.getD (v24).toNat ((0 : Int), ([] : (List Int)))).2)]), (13, [], .dict (.pr (.int .i64) (.int .i64)) (.int .u32) sv4)]⟩ : St)) (by kernel_rfl) ⟨trivial, trivial⟩ ?_
                        refine awd_one (i := 7) (by kernel_rfl) ?_
                        obtain ⟨o1, h⟩ := h
                        refine adop_stepp [1, 2, 5, 7, 9, 10, 11, 22, 23, 24, 57, 63, 64] [2, 9, 13] (ob := InR (sv4.length : Int)) (st' := (⟨68, [(1, [], .v (.c (.p (.sl (.int .i64)) w))), (2, [], .v (.c (.ptr 2 0))), (5, [], .v (.c (.own 13))), (7, [], .v (.c (.p (.int .i64) fromv))), (9, [], .v (.c (.ptr 9 0))), (10, [], .v (.c (.p (.int .u32) ret34v))), (11, [], .v (.c (.p (.int .i64) tov))), (22, [], .v (.c (.p (.sl (.pr (.int .i64) (.sl (.int .i64)))) g.2.2.2))), (23, [], .v (.c (.p (.int .i64) (g.2.2.2.length : Int)))), (24, [], .v (.c (.p (.int .i64) v24))), (57, [], .v (.c (.own 13))), (63, [], .v (.c (.p (.int .u32) (bOr .u32 ((mget sv4 (fromv, tov)).getD (0 : Int)) (bShl .u32 (1 : Int) ((g.2.2.2.getD (v24).toNat ((0 : Int), ([] : (List Int)))).1)))))), (64, [], .tup [.c (.p (.int .u32) ((mget sv4 (fromv, tov)).getD (0 : Int))), .c (.p (.int .i64) (mplace sv4 (fromv, tov)))])], [(2, [], .box [.p (.int .i64) g.1, .p (.int .i64) g.2.1, .p (.int .i64) g.2.2.1, .p (.sl (.pr (.int .i64) (.sl (.int .i64)))) g.2.2.2]), (9, [], .box [.p (.int .i64) ((g.2.2.2.getD (v24).toNat ((0 : Int), ([] : (List Int)))).1), .p (.sl (.int .i64)) ((g.2.2.2.getD (v24).toNat ((0 : Int), ([] : (List Int)))).2)]), (13, [], .dict (.pr (.int .i64) (.int .i64)) (.int .u32) (mtouch sv4 (fromv, tov) (0 : Int)))]⟩ : St)) rfl (by kernel_rfl) o1 ?_
                        refine awd_runp (by kernel_rfl) [8] [1, 2, 5, 7, 9, 10, 11, 22, 23, 24, 57, 63, 65] [2, 9, 13] (ob := (True ∧ True)) (done' := [8, 7, 6, 2, 5, 4, 3, 1, 0]) (st' := (⟨68, [(1, [], .v (.c (.p (.sl (.int .i64)) w))), (2, [], .v (.c (.ptr 2 0))), (5, [], .v (.c (.own 13))), (7, [], .v (.c (.p (.int .i64) fromv))), (9, [], .v (.c (.ptr 9 0))), (10, [], .v (.c (.p (.int .u32) ret34v))), (11, [], .v (.c (.p (.int .i64) tov))), (22, [], .v (.c (.p (.sl (.pr (.int .i64) (.sl (.int .i64)))) g.2.2.2))), (23, [], .v (.c (.p (.int .i64) (g.2.2.2.length : Int)))), (24, [], .v (.c (.p (.int .i64) v24))), (57, [], .v (.c (.own 13))), (63, [], .v (.c (.p (.int .u32) (bOr .u32 ((mget sv4 (fromv, tov)).getD (0 : Int)) (bShl .u32 (1 : Int) ((g.2.2.2.getD (v24).toNat ((0 : Int), ([] : (List Int)))).1)))))), (65, [], .v (.c (.p (.int .i64) (mplace sv4 (fromv, tov)))))], [(2, [], .box [.p (.int .i64) g.1, .p (.int .i64) g.2.1, .p (.int .i64) g.2.2.1, .p (.sl (.pr (.int .i64) (.sl (.int .i64)))) g.2.2.2]), (9, [], .box [.p (.int .i64) ((g.2.2.2.getD (v24).toNat ((0 : Int), ([] : (List Int)))).1), .p (.sl (.int .i64)) ((g.2.2.2.getD (v24).toNat ((0 : Int), ([] : (List Int)))).2)]), (13, [], .dict (.pr (.int .i64) (.int .i64)) (.int .u32) (mtouch sv4 (fromv, tov) (0 : Int)))]⟩ : St)) (by kernel_rfl) ⟨trivial, trivial⟩ ?_
                        refine awd_one (i := 9) (by kernel_rfl) ?_
                        obtain ⟨o1, h⟩ := h
                        refine adop_stepp [1, 2, 5, 7, 9, 10, 11, 22, 23, 24] [2, 9, 13] (ob := inIdx (mplace sv4 (fromv, tov)) (mtouch sv4 (fromv, tov) (0 : Int)).length) (st' := (⟨68, [(1, [], .v (.c (.p (.sl (.int .i64)) w))), (2, [], .v (.c (.ptr 2 0))), (5, [], .v (.c (.own 13))), (7, [], .v (.c (.p (.int .i64) fromv))), (9, [], .v (.c (.ptr 9 0))), (10, [], .v (.c (.p (.int .u32) ret34v))), (11, [], .v (.c (.p (.int .i64) tov))), (22, [], .v (.c (.p (.sl (.pr (.int .i64) (.sl (.int .i64)))) g.2.2.2))), (23, [], .v (.c (.p (.int .i64) (g.2.2.2.length : Int)))), (24, [], .v (.c (.p (.int .i64) v24)))], [(2, [], .box [.p (.int .i64) g.1, .p (.int .i64) g.2.1, .p (.int .i64) g.2.2.1, .p (.sl (.pr (.int .i64) (.sl (.int .i64)))) g.2.2.2]), (9, [], .box [.p (.int .i64) ((g.2.2.2.getD (v24).toNat ((0 : Int), ([] : (List Int)))).1), .p (.sl (.int .i64)) ((g.2.2.2.getD (v24).toNat ((0 : Int), ([] : (List Int)))).2)]), (13, [], .dict (.pr (.int .i64) (.int .i64)) (.int .u32) (mputAt (mtouch sv4 (fromv, tov) (0 : Int)) ((mplace sv4 (fromv, tov))).toNat (bOr .u32 ((mget sv4 (fromv, tov)).getD (0 : Int)) (bShl .u32 (1 : Int) ((g.2.2.2.getD (v24).toNat ((0 : Int), ([] : (List Int)))).1)))))]⟩ : St)) rfl (by kernel_rfl) o1 ?_
                        refine awd_done (by kernel_rfl) ?_
                        refine thenQ_n ?_
                        refine aw_region ?_
                        refine awl_runp 1 [1, 2, 5, 6, 7, 9, 10, 11, 22, 23, 24] [2, 9, 13] (ob := (True ∧ True)) (st' := (⟨68, [(1, [], .v (.c (.p (.sl (.int .i64)) w))), (2, [], .v (.c (.ptr 2 0))), (5, [], .v (.c (.own 13))), (6, [], .v (.c (.p .bool true))), (7, [], .v (.c (.p (.int .i64) fromv))), (9, [], .v (.c (.ptr 9 0))), (10, [], .v (.c (.p (.int .u32) ret34v))), (11, [], .v (.c (.p (.int .i64) tov))), (22, [], .v (.c (.p (.sl (.pr (.int .i64) (.sl (.int .i64)))) g.2.2.2))), (23, [], .v (.c (.p (.int .i64) (g.2.2.2.length : Int)))), (24, [], .v (.c (.p (.int .i64) v24)))], [(2, [], .box [.p (.int .i64) g.1, .p (.int .i64) g.2.1, .p (.int .i64) g.2.2.1, .p (.sl (.pr (.int .i64) (.sl (.int .i64)))) g.2.2.2]), (9, [], .box [.p (.int .i64) ((g.2.2.2.getD (v24).toNat ((0 : Int), ([] : (List Int)))).1), .p (.sl (.int .i64)) ((g.2.2.2.getD (v24).toNat ((0 : Int), ([] : (List Int)))).2)]), (13, [], .dict (.pr (.int .i64) (.int .i64)) (.int .u32) (mputAt (mtouch sv4 (fromv, tov) (0 : Int)) ((mplace sv4 (fromv, tov))).toNat (bOr .u32 ((mget sv4 (fromv, tov)).getD (0 : Int)) (bShl .u32 (1 : Int) ((g.2.2.2.getD (v24).toNat ((0 : Int), ([] : (List Int)))).1)))))]⟩ : St)) (by kernel_rfl) ⟨trivial, trivial⟩ ?_
                        refine awl_nil ?_
                        exact rest5 (true, (mputAt (mtouch sv4 (fromv, tov) (0 : Int)) ((mplace sv4 (fromv, tov))).toNat (bOr .u32 ((mget sv4 (fromv, tov)).getD (0 : Int)) (bShl .u32 (1 : Int) ((g.2.2.2.getD (v24).toNat ((0 : Int), ([] : (List Int)))).1))))) h
                      · have h := h.2
                        obtain ⟨o1, h⟩ := h
                        refine adop_stepp [1, 2, 5, 7, 9, 10, 11, 22, 23, 24, 57, 58, 62, 64] [2, 9, 13] (ob := InR (sv4.length : Int)) (st' := (⟨68, [(1, [], .v (.c (.p (.sl (.int .i64)) w))), (2, [], .v (.c (.ptr 2 0))), (5, [], .v (.c (.own 13))), (7, [], .v (.c (.p (.int .i64) fromv))), (9, [], .v (.c (.ptr 9 0))), (10, [], .v (.c (.p (.int .u32) ret34v))), (11, [], .v (.c (.p (.int .i64) tov))), (22, [], .v (.c (.p (.sl (.pr (.int .i64) (.sl (.int .i64)))) g.2.2.2))), (23, [], .v (.c (.p (.int .i64) (g.2.2.2.length : Int)))), (24, [], .v (.c (.p (.int .i64) v24))), (57, [], .v (.c (.own 13))), (58, [], .v (.agg [.p (.int .i64) fromv, .p (.int .i64) tov])), (62, [], .v (.c (.p (.int .u32) (bShl .u32 (1 : Int) ((g.2.2.2.getD (v24).toNat ((0 : Int), ([] : (List Int)))).1))))), (64, [], .tup [.c (.p (.int .u32) ((mget sv4 (fromv, tov)).getD (0 : Int))), .c (.p (.int .i64) (mplace sv4 (fromv, tov)))])], [(2, [], .box [.p (.int .i64) g.1, .p (.int .i64) g.2.1, .p (.int .i64) g.2.2.1, .p (.sl (.pr (.int .i64) (.sl (.int .i64)))) g.2.2.2]), (9, [], .box [.p (.int .i64) ((g.2.2.2.getD (v24).toNat ((0 : Int), ([] : (List Int)))).1), .p (.sl (.int .i64)) ((g.2.2.2.getD (v24).toNat ((0 : Int), ([] : (List Int)))).2)]), (13, [], .dict (.pr (.int .i64) (.int .i64)) (.int .u32) (mtouch sv4 (fromv, tov) (0 : Int)))]⟩ : St)) rfl (by kernel_rfl) o1 ?_
                        refine awd_runp (by kernel_rfl) [8] [1, 2, 5, 7, 9, 10, 11, 22, 23, 24, 57, 58, 62, 65] [2, 9, 13] (ob := (True ∧ True)) (done' := [8, 7, 5, 4, 3, 1, 0]) (st' := (⟨68, [(1, [], .v (.c (.p (.sl (.int .i64)) w))), (2, [], .v (.c (.ptr 2 0))), (5, [], .v (.c (.own 13))), (7, [], .v (.c (.p (.int .i64) fromv))), (9, [], .v (.c (.ptr 9 0))), (10, [], .v (.c (.p (.int .u32) ret34v))), (11, [], .v (.c (.p (.int .i64) tov))), (22, [], .v (.c (.p (.sl (.pr (.int .i64) (.sl (.int .i64)))) g.2.2.2))), (23, [], .v (.c (.p (.int .i64) (g.2.2.2.length : Int)))), (24, [], .v (.c (.p (.int .i64) v24))), (57, [], .v (.c (.own 13))), (58, [], .v (.agg [.p (.int .i64) fromv, .p (.int .i64) tov])), (62, [], .v (.c (.p (.int .u32) (bShl .u32 (1 : Int) ((g.2.2.2.getD (v24).toNat ((0 : Int), ([] : (List Int)))).1))))), (65, [], .v (.c (.p (.int .i64) (mplace sv4 (fromv, tov)))))], [(2, [], .box [.p (.int .i64) g.1, .p (.int .i64) g.2.1, .p (.int .i64) g.2.2.1, .p (.sl (.pr (.int .i64) (.sl (.int .i64)))) g.2.2.2]), (9, [], .box [.p (.int .i64) ((g.2.2.2.getD (v24).toNat ((0 : Int), ([] : (List Int)))).1), .p (.sl (.int .i64)) ((g.2.2.2.getD (v24).toNat ((0 : Int), ([] : (List Int)))).2)]), (13, [], .dict (.pr (.int .i64) (.int .i64)) (.int .u32) (mtouch sv4 (fromv, tov) (0 : Int)))]⟩ : St)) (by kernel_rfl) ⟨trivial, trivial⟩ ?_
                        refine awd_one (i := 2) (by kernel_rfl) ?_
                        refine adop_stepp [1, 2, 5, 7, 9, 10, 11, 22, 23, 24, 57, 59, 62, 65] [2, 9, 13] (ob := True) (st' := (⟨68, [(1, [], .v (.c (.p (.sl (.int .i64)) w))), (2, [], .v (.c (.ptr 2 0))), (5, [], .v (.c (.own 13))), (7, [], .v (.c (.p (.int .i64) fromv))), (9, [], .v (.c (.ptr 9 0))), (10, [], .v (.c (.p (.int .u32) ret34v))), (11, [], .v (.c (.p (.int .i64) tov))), (22, [], .v (.c (.p (.sl (.pr (.int .i64) (.sl (.int .i64)))) g.2.2.2))), (23, [], .v (.c (.p (.int .i64) (g.2.2.2.length : Int)))), (24, [], .v (.c (.p (.int .i64) v24))), (57, [], .v (.c (.own 13))), (59, [], .v (.c (.p (.int .u32) ((mget (mtouch sv4 (fromv, tov) (0 : Int)) (fromv, tov)).getD (0 : Int))))), (62, [], .v (.c (.p (.int .u32) (bShl .u32 (1 : Int) ((g.2.2.2.getD (v24).toNat ((0 : Int), ([] : (List Int)))).1))))), (65, [], .v (.c (.p (.int .i64) (mplace sv4 (fromv, tov)))))], [(2, [], .box [.p (.int .i64) g.1, .p (.int .i64) g.2.1, .p (.int .i64) g.2.2.1, .p (.sl (.pr (.int .i64) (.sl (.int .i64)))) g.2.2.2]), (9, [], .box [.p (.int .i64) ((g.2.2.2.getD (v24).toNat ((0 : Int), ([] : (List Int)))).1), .p (.sl (.int .i64)) ((g.2.2.2.getD (v24).toNat ((0 : Int), ([] : (List Int)))).2)]), (13, [], .dict (.pr (.int .i64) (.int .i64)) (.int .u32) (mtouch sv4 (fromv, tov) (0 : Int)))]⟩ : St)) rfl (by kernel_rfl) trivial ?_
                        refine awd_runp (by kernel_rfl) [6] [1, 2, 5, 7, 9, 10, 11, 22, 23, 24, 57, 63, 65] [2, 9, 13] (ob := (True ∧ True)) (done' := [6, 2, 8, 7, 5, 4, 3, 1, 0]) (st' := (⟨68, [(1, [], .v (.c (.p (.sl (.int .i64)) w))), (2, [], .v (.c (.ptr 2 0))), (5, [], .v (.c (.own 13))), (7, [], .v (.c (.p (.int .i64) fromv))), (9, [], .v (.c (.ptr 9 0))), (10, [], .v (.c (.p (.int .u32) ret34v))), (11, [], .v (.c (.p (.int .i64) tov))), (22, [], .v (.c (.p (.sl (.pr (.int .i64) (.sl (.int .i64)))) g.2.2.2))), (23, [], .v (.c (.p (.int .i64) (g.2.2.2.length : Int)))), (24, [], .v (.c (.p (.int .i64) v24))), (57, [], .v (.c (.own 13))), (63, [], .v (.c (.p (.int .u32) (bOr .u32 ((mget (mtouch sv4 (fromv, tov) (0 : Int)) (fromv, tov)).getD (0 : Int)) (bShl .u32 (1 : Int) ((g.2.2.2.getD (v24).toNat ((0 : Int), ([] : (List Int)))).1)))))), (65, [], .v (.c (.p (.int .i64) (mplace sv4 (fromv, tov)))))], [(2, [], .box [.p (.int .i64) g.1, .p (.int .i64) g.2.1, .p (.int .i64) g.2.2.1, .p (.sl (.pr (.int .i64) (.sl (.int .i64)))) g.2.2.2]), (9, [], .box [.p (.int .i64) ((g.2.2.2.getD (v24).toNat ((0 : Int), ([] : (List Int)))).1), .p (.sl (.int .i64)) ((g.2.2.2.getD (v24).toNat ((0 : Int), ([] : (List Int)))).2)]), (13, [], .dict (.pr (.int .i64) (.int .i64)) (.int .u32) (mtouch sv4 (fromv, tov) (0 : Int)))]⟩ : St)) (by kernel_rfl) ⟨trivial, trivial⟩ ?_
                        refine awd_one (i := 9) (by kernel_rfl) ?_
                        obtain ⟨o1, h⟩ := h
                        refine adop_stepp [1, 2, 5, 7, 9, 10, 11, 22, 23, 24] [2, 9, 13] (ob := inIdx (mplace sv4 (fromv, tov)) (mtouch sv4 (fromv, tov) (0 : Int)).length) (st' := (⟨68, [(1, [], .v (.c (.p (.sl (.int .i64)) w))), (2, [], .v (.c (.ptr 2 0))), (5, [], .v (.c (.own 13))), (7, [], .v (.c (.p (.int .i64) fromv))), (9, [], .v (.c (.ptr 9 0))), (10, [], .v (.c (.p (.int .u32) ret34v))), (11, [], .v (.c (.p (.int .i64) tov))), (22, [], .v (.c (.p (.sl (.pr (.int .i64) (.sl (.int .i64)))) g.2.2.2))), (23, [], .v (.c (.p (.int .i64) (g.2.2.2.length : Int)))), (24, [], .v (.c (.p (.int .i64) v24)))], [(2, [], .box [.p (.int .i64) g.1, .p (.int .i64) g.2.1, .p (.int .i64) g.2.2.1, .p (.sl (.pr (.int .i64) (.sl (.int .i64)))) g.2.2.2]), (9, [], .box [.p (.int .i64) ((g.2.2.2.getD (v24).toNat ((0 : Int), ([] : (List Int)))).1), .p (.sl (.int .i64)) ((g.2.2.2.getD (v24).toNat ((0 : Int), ([] : (List Int)))).2)]), (13, [], .dict (.pr (.int .i64) (.int .i64)) (.int .u32) (mputAt (mtouch sv4 (fromv, tov) (0 : Int)) ((mplace sv4 (fromv, tov))).toNat (bOr .u32 ((mget (mtouch sv4 (fromv, tov) (0 : Int)) (fromv, tov)).getD (0 : Int)) (bShl .u32 (1 : Int) ((g.2.2.2.getD (v24).toNat ((0 : Int), ([] : (List Int)))).1)))))]⟩ : St)) rfl (by kernel_rfl) o1 ?_
                        refine awd_done (by kernel_rfl) ?_
                        refine thenQ_n ?_
                        refine aw_region ?_
                        refine awl_runp 1 [1, 2, 5, 6, 7, 9, 10, 11, 22, 23, 24] [2, 9, 13] (ob := (True ∧ True)) (st' := (⟨68, [(1, [], .v (.c (.p (.sl (.int .i64)) w))), (2, [], .v (.c (.ptr 2 0))), (5, [], .v (.c (.own 13))), (6, [], .v (.c (.p .bool true))), (7, [], .v (.c (.p (.int .i64) fromv))), (9, [], .v (.c (.ptr 9 0))), (10, [], .v (.c (.p (.int .u32) ret34v))), (11, [], .v (.c (.p (.int .i64) tov))), (22, [], .v (.c (.p (.sl (.pr (.int .i64) (.sl (.int .i64)))) g.2.2.2))), (23, [], .v (.c (.p (.int .i64) (g.2.2.2.length : Int)))), (24, [], .v (.c (.p (.int .i64) v24)))], [(2, [], .box [.p (.int .i64) g.1, .p (.int .i64) g.2.1, .p (.int .i64) g.2.2.1, .p (.sl (.pr (.int .i64) (.sl (.int .i64)))) g.2.2.2]), (9, [], .box [.p (.int .i64) ((g.2.2.2.getD (v24).toNat ((0 : Int), ([] : (List Int)))).1), .p (.sl (.int .i64)) ((g.2.2.2.getD (v24).toNat ((0 : Int), ([] : (List Int)))).2)]), (13, [], .dict (.pr (.int .i64) (.int .i64)) (.int .u32) (mputAt (mtouch sv4 (fromv, tov) (0 : Int)) ((mplace sv4 (fromv, tov))).toNat (bOr .u32 ((mget (mtouch sv4 (fromv, tov) (0 : Int)) (fromv, tov)).getD (0 : Int)) (bShl .u32 (1 : Int) ((g.2.2.2.getD (v24).toNat ((0 : Int), ([] : (List Int)))).1)))))]⟩ : St)) (by kernel_rfl) ⟨trivial, trivial⟩ ?_
                        refine awl_nil ?_
                        exact rest5 (true, (mputAt (mtouch sv4 (fromv, tov) (0 : Int)) ((mplace sv4 (fromv, tov))).toNat (bOr .u32 ((mget (mtouch sv4 (fromv, tov) (0 : Int)) (fromv, tov)).getD (0 : Int)) (bShl .u32 (1 : Int) ((g.2.2.2.getD (v24).toNat ((0 : Int), ([] : (List Int)))).1))))) h
                    · have h := h.2 hb
                      refine aw_conv [.prune [1, 2, 5, 6, 7, 9, 10, 11, 22, 23, 24] [2, 9, 13]] (st' := (⟨68, [(1, [], .v (.c (.p (.sl (.int .i64)) w))), (2, [], .v (.c (.ptr 2 0))), (5, [], .v (.c (.own 13))), (6, [], .v (.c (.p .bool grown4))), (7, [], .v (.c (.p (.int .i64) fromv))), (9, [], .v (.c (.ptr 9 0))), (10, [], .v (.c (.p (.int .u32) ret34v))), (11, [], .v (.c (.p (.int .i64) tov))), (22, [], .v (.c (.p (.sl (.pr (.int .i64) (.sl (.int .i64)))) g.2.2.2))), (23, [], .v (.c (.p (.int .i64) (g.2.2.2.length : Int)))), (24, [], .v (.c (.p (.int .i64) v24)))], [(2, [], .box [.p (.int .i64) g.1, .p (.int .i64) g.2.1, .p (.int .i64) g.2.2.1, .p (.sl (.pr (.int .i64) (.sl (.int .i64)))) g.2.2.2]), (9, [], .box [.p (.int .i64) ((g.2.2.2.getD (v24).toNat ((0 : Int), ([] : (List Int)))).1), .p (.sl (.int .i64)) ((g.2.2.2.getD (v24).toNat ((0 : Int), ([] : (List Int)))).2)]), (13, [], .dict (.pr (.int .i64) (.int .i64)) (.int .u32) sv4)]⟩ : St)) (by kernel_rfl) ?_
                      refine aw_skip ?_
                      exact rest5 (grown4, sv4) h
                · have h := h.2 hb
                  refine aw_conv [.prune [1, 2, 5, 6, 7, 22, 23, 24] [2, 13]] (st' := (⟨68, [(1, [], .v (.c (.p (.sl (.int .i64)) w))), (2, [], .v (.c (.ptr 2 0))), (5, [], .v (.c (.own 13))), (6, [], .v (.c (.p .bool grown4))), (7, [], .v (.c (.p (.int .i64) fromv))), (22, [], .v (.c (.p (.sl (.pr (.int .i64) (.sl (.int .i64)))) g.2.2.2))), (23, [], .v (.c (.p (.int .i64) (g.2.2.2.length : Int)))), (24, [], .v (.c (.p (.int .i64) v24)))], [(2, [], .box [.p (.int .i64) g.1, .p (.int .i64) g.2.1, .p (.int .i64) g.2.2.1, .p (.sl (.pr (.int .i64) (.sl (.int .i64)))) g.2.2.2]), (13, [], .dict (.pr (.int .i64) (.int .i64)) (.int .u32) sv4)]⟩ : St)) (by kernel_rfl) ?_
                  refine aw_exit ?_
                  refine thenQ_x ?_
                  refine thenQ_x ?_
                  refine blockQ_hit ?_
                  exact rest4 (grown4, sv4) h
            · have h := h.2 hb
              refine aw_conv [.prune [1, 2, 5, 6, 7] [2, 13]] (st' := (⟨68, [(1, [], .v (.c (.p (.sl (.int .i64)) w))), (2, [], .v (.c (.ptr 2 0))), (5, [], .v (.c (.own 13))), (6, [], .v (.c (.p .bool grown3))), (7, [], .v (.c (.p (.int .i64) fromv)))], [(2, [], .box [.p (.int .i64) g.1, .p (.int .i64) g.2.1, .p (.int .i64) g.2.2.1, .p (.sl (.pr (.int .i64) (.sl (.int .i64)))) g.2.2.2]), (13, [], .dict (.pr (.int .i64) (.int .i64)) (.int .u32) sv3)]⟩ : St)) (by kernel_rfl) ?_
              refine aw_exit ?_
              refine thenQ_x ?_
              refine thenQ_x ?_
              refine blockQ_hit ?_
              exact rest3 (grown3, sv3) h
        · have h := h.2 hb
          refine aw_conv [.prune [1, 2, 5, 6] [2, 13]] (st' := (⟨68, [(1, [], .v (.c (.p (.sl (.int .i64)) w))), (2, [], .v (.c (.ptr 2 0))), (5, [], .v (.c (.own 13))), (6, [], .v (.c (.p .bool grown2)))], [(2, [], .box [.p (.int .i64) g.1, .p (.int .i64) g.2.1, .p (.int .i64) g.2.2.1, .p (.sl (.pr (.int .i64) (.sl (.int .i64)))) g.2.2.2]), (13, [], .dict (.pr (.int .i64) (.int .i64)) (.int .u32) sv2)]⟩ : St)) (by kernel_rfl) ?_
          refine aw_exit ?_
          refine thenQ_x ?_
          refine thenQ_x ?_
          refine blockQ_hit ?_
          exact rest2 (grown2, sv2) h
    · have h := h.2 hb
      refine aw_conv [.prune [5] [13]] (st' := (⟨68, [(5, [], .v (.c (.own 13)))], [(13, [], .dict (.pr (.int .i64) (.int .i64)) (.int .u32) sv)]⟩ : St)) (by kernel_rfl) ?_
      refine aw_exit ?_
      refine thenQ_x ?_
      refine thenQ_x ?_
      refine blockQ_hit ?_
      exact rest1 sv h

-- coppicer/table.Names
def VC20 (g : (Int × (Int × (Int × (List (Int × (List Int))))))) (w : (List Int)) (K : Int × Int → Prop) : Prop :=
  VC44 g w (fun (ret9v : Int) => (((!decide (ret9v = (0 : Int))) = true → K ((0 : Int), ret9v)) ∧ ((!decide (ret9v = (0 : Int))) = false → VC45 g w (fun (ret15v : (List ((Int × Int) × Int))) => K (((mget ret15v ((0 : Int), (w.length : Int))).getD (0 : Int)), (0 : Int))))))

set_option maxHeartbeats 4000000 in
theorem link20 (g : (Int × (Int × (Int × (List (Int × (List Int))))))) (w : (List Int)) (K : Int × Int → Prop) (h : VC20 g w K) : ACalls Try.prog 20 [toV1 (.pr (.int .i64) (.pr (.int .i64) (.pr (.int .i64) (.sl (.pr (.int .i64) (.sl (.int .i64))))))) g, toV1 (.sl (.int .i64)) w] (fun res => ∃ y, res = (fun y => [toV1 (.int .u32) y.1, toV1 (.int .i64) y.2]) y ∧ K y) := by
  refine acalls_of_aw [(.int .u32), (.int .i64)] [.t 4, .t 5] Try.func20 rfl rfl rfl ?_
  unfold VC20 at h
  refine aw_seq ?_
  refine aw_region ?_
  refine awl_runp 3 [1, 2] [2] (ob := (True ∧ True ∧ True ∧ True)) (st' := (⟨20, [(1, [], .v (.c (.p (.sl (.int .i64)) w))), (2, [], .v (.c (.ptr 2 0)))], [(2, [], .box [.p (.int .i64) g.1, .p (.int .i64) g.2.1, .p (.int .i64) g.2.2.1, .p (.sl (.pr (.int .i64) (.sl (.int .i64)))) g.2.2.2])]⟩ : St)) (by kernel_rfl) ⟨trivial, trivial, trivial, trivial⟩ ?_
  refine awl_nil ?_
  refine thenQ_n ?_
  refine aw_seq ?_
  refine aw_seq ?_
  refine aw_region ?_
  refine awl_runp 2 [1, 2, 7, 8] [2] (ob := (True ∧ True ∧ True)) (st' := (⟨20, [(1, [], .v (.c (.p (.sl (.int .i64)) w))), (2, [], .v (.c (.ptr 2 0))), (7, [], .v (.agg [.p (.int .i64) g.1, .p (.int .i64) g.2.1, .p (.int .i64) g.2.2.1, .p (.sl (.pr (.int .i64) (.sl (.int .i64)))) g.2.2.2])), (8, [], .v (.c (.p (.sl (.int .i64)) w)))], [(2, [], .box [.p (.int .i64) g.1, .p (.int .i64) g.2.1, .p (.int .i64) g.2.2.1, .p (.sl (.pr (.int .i64) (.sl (.int .i64)))) g.2.2.2])]⟩ : St)) (by kernel_rfl) ⟨trivial, trivial, trivial⟩ ?_
  refine awl_callk (p := []) (l := [toV1 (.pr (.int .i64) (.pr (.int .i64) (.pr (.int .i64) (.sl (.pr (.int .i64) (.sl (.int .i64))))))) g, toV1 (.sl (.int .i64)) w]) (cl := []) false [.d (.pr (.int .i64) (.pr (.int .i64) (.pr (.int .i64) (.sl (.pr (.int .i64) (.sl (.int .i64))))))), .d (.sl (.int .i64))] [1, 2, 9] [2] (fun (ret9v : Int) => (((!decide (ret9v = (0 : Int))) = true → K ((0 : Int), ret9v)) ∧ ((!decide (ret9v = (0 : Int))) = false → VC45 g w (fun (ret15v : (List ((Int × Int) × Int))) => K (((mget ret15v ((0 : Int), (w.length : Int))).getD (0 : Int)), (0 : Int)))))) (fun ret9v => [toV1 (.int .i64) ret9v]) (fun ret9v => (⟨20, [(1, [], .v (.c (.p (.sl (.int .i64)) w))), (2, [], .v (.c (.ptr 2 0))), (9, [], .v (.c (.p (.int .i64) ret9v)))], [(2, [], .box [.p (.int .i64) g.1, .p (.int .i64) g.2.1, .p (.int .i64) g.2.2.1, .p (.sl (.pr (.int .i64) (.sl (.int .i64)))) g.2.2.2])]⟩ : St)) (by kernel_rfl) rfl (by kernel_rfl) rfl (by kernel_rfl) Try.call44 (by kernel_rfl) (fun ret9v => by kernel_rfl) (fun e => by cases e) (fun hg => link44 g w _ h) (fun hg => noF hg) (fun ret9v h => ?_)
  have h : (((!decide (ret9v = (0 : Int))) = true → K ((0 : Int), ret9v)) ∧ ((!decide (ret9v = (0 : Int))) = false → VC45 g w (fun (ret15v : (List ((Int × Int) × Int))) => K (((mget ret15v ((0 : Int), (w.length : Int))).getD (0 : Int)), (0 : Int))))) := h
  refine awl_runp 1 [1, 2, 6] [2] (ob := (True ∧ True)) (st' := (⟨20, [(1, [], .v (.c (.p (.sl (.int .i64)) w))), (2, [], .v (.c (.ptr 2 0))), (6, [], .v (.c (.p (.int .i64) ret9v)))], [(2, [], .box [.p (.int .i64) g.1, .p (.int .i64) g.2.1, .p (.int .i64) g.2.2.1, .p (.sl (.pr (.int .i64) (.sl (.int .i64)))) g.2.2.2])]⟩ : St)) (by kernel_rfl) ⟨trivial, trivial⟩ ?_
  refine awl_nil ?_
  refine thenQ_n ?_
  refine aw_seq ?_
  refine aw_region ?_
  refine awl_runp 2 [1, 2, 6, 11] [2] (ob := (True ∧ True ∧ True)) (st' := (⟨20, [(1, [], .v (.c (.p (.sl (.int .i64)) w))), (2, [], .v (.c (.ptr 2 0))), (6, [], .v (.c (.p (.int .i64) ret9v))), (11, [], .v (.c (.p .bool (!decide (ret9v = (0 : Int))))))], [(2, [], .box [.p (.int .i64) g.1, .p (.int .i64) g.2.1, .p (.int .i64) g.2.2.1, .p (.sl (.pr (.int .i64) (.sl (.int .i64)))) g.2.2.2])]⟩ : St)) (by kernel_rfl) ⟨trivial, trivial, trivial⟩ ?_
  refine awl_nil ?_
  refine thenQ_n ?_
  refine aw_cond (b := (!decide (ret9v = (0 : Int)))) (by kernel_rfl) (fun hb => ?_) (fun hb => ?_)
  · have h := h.1 hb
    refine aw_seq ?_
    refine aw_region ?_
    refine awl_runp 3 [4, 5] [] (ob := (True ∧ True ∧ True ∧ True)) (st' := (⟨20, [(4, [], .v (.c (.p (.int .u32) (0 : Int)))), (5, [], .v (.c (.p (.int .i64) ret9v)))], []⟩ : St)) (by kernel_rfl) ⟨trivial, trivial, trivial, trivial⟩ ?_
    refine awl_nil ?_
    refine thenQ_n ?_
    refine aw_ret ?_
    refine thenQ_r ?_
    exact retQ_r (σ := Int × Int) (R := (fun y => [toV1 (.int .u32) y.1, toV1 (.int .i64) y.2])) (ob := (True ∧ True ∧ True)) ((0 : Int), ret9v) (by kernel_rfl) ⟨trivial, trivial, trivial⟩ h
  · have h := h.2 hb
    refine aw_skip ?_
    refine thenQ_n ?_
    refine aw_seq ?_
    refine aw_region ?_
    refine awl_runp 2 [1, 13, 14] [] (ob := (True ∧ True ∧ True)) (st' := (⟨20, [(1, [], .v (.c (.p (.sl (.int .i64)) w))), (13, [], .v (.agg [.p (.int .i64) g.1, .p (.int .i64) g.2.1, .p (.int .i64) g.2.2.1, .p (.sl (.pr (.int .i64) (.sl (.int .i64)))) g.2.2.2])), (14, [], .v (.c (.p (.sl (.int .i64)) w)))], []⟩ : St)) (by kernel_rfl) ⟨trivial, trivial, trivial⟩ ?_
    refine awl_callk (p := []) (l := [toV1 (.pr (.int .i64) (.pr (.int .i64) (.pr (.int .i64) (.sl (.pr (.int .i64) (.sl (.int .i64))))))) g, toV1 (.sl (.int .i64)) w]) (cl := []) false [.d (.pr (.int .i64) (.pr (.int .i64) (.pr (.int .i64) (.sl (.pr (.int .i64) (.sl (.int .i64))))))), .d (.sl (.int .i64))] [1, 15] [] (fun (ret15v : (List ((Int × Int) × Int))) => K (((mget ret15v ((0 : Int), (w.length : Int))).getD (0 : Int)), (0 : Int))) (fun ret15v => [toV1 (.mp (.pr (.int .i64) (.int .i64)) (.int .u32)) ret15v]) (fun ret15v => (⟨20, [(1, [], .v (.c (.p (.sl (.int .i64)) w))), (15, [], .v (.c (.p (.mp (.pr (.int .i64) (.int .i64)) (.int .u32)) ret15v)))], []⟩ : St)) (by kernel_rfl) rfl (by kernel_rfl) rfl (by kernel_rfl) Try.call45 (by kernel_rfl) (fun ret15v => by kernel_rfl) (fun e => by cases e) (fun hg => link45 g w _ h) (fun hg => noF hg) (fun ret15v h => ?_)
    have h : K (((mget ret15v ((0 : Int), (w.length : Int))).getD (0 : Int)), (0 : Int)) := h
    refine awl_runp 6 [4, 5] [] (ob := (True ∧ True ∧ True ∧ True ∧ True ∧ True ∧ True)) (st' := (⟨20, [(4, [], .v (.c (.p (.int .u32) ((mget ret15v ((0 : Int), (w.length : Int))).getD (0 : Int))))), (5, [], .v (.c (.p (.int .i64) (0 : Int))))], []⟩ : St)) (by kernel_rfl) ⟨trivial, trivial, trivial, trivial, trivial, trivial, trivial⟩ ?_
    refine awl_nil ?_
    refine thenQ_n ?_
    refine aw_ret ?_
    exact retQ_r (σ := Int × Int) (R := (fun y => [toV1 (.int .u32) y.1, toV1 (.int .i64) y.2])) (ob := (True ∧ True ∧ True)) (((mget ret15v ((0 : Int), (w.length : Int))).getD (0 : Int)), (0 : Int)) (by kernel_rfl) ⟨trivial, trivial, trivial⟩ h

-- coppicer/coppicerref.WordCheck
def VC46_k1 (K : Int → Prop) : Prop :=
  K (0 : Int)

def VC46_l1 (k : Int) (w : (List Int)) (K : Int → Prop) (v12 : Int) (X1 : Int → Prop) : Prop :=
  (((decide (v12 < (w.length : Int))) = true → (inIdx v12 w.length ∧ ((((decide ((w.getD (v12).toNat (0 : Int)) < (0 : Int))) || (decide (k ≤ (w.getD (v12).toNat (0 : Int))))) = true → K (2 : Int)) ∧ (((decide ((w.getD (v12).toNat (0 : Int)) < (0 : Int))) || (decide (k ≤ (w.getD (v12).toNat (0 : Int))))) = false → (InR (v12 + (1 : Int)) ∧ X1 (v12 + (1 : Int))))))) ∧ ((decide (v12 < (w.length : Int))) = false → VC46_k1 K))

def VC46 (k : Int) (w : (List Int)) (K : Int → Prop) : Prop :=
  (((decide ((12 : Int) < (w.length : Int))) = true → K (1 : Int)) ∧ ((decide ((12 : Int) < (w.length : Int))) = false → Loop (σ := Int) (fun s X => VC46_l1 k w K s X) (0 : Int)))

set_option maxHeartbeats 4000000 in
theorem link46 (k : Int) (w : (List Int)) (K : Int → Prop) (h : VC46 k w K) : ACalls Try.prog 46 [toV1 (.int .i64) k, toV1 (.sl (.int .i64)) w] (fun res => ∃ y, res = (fun y => [toV1 (.int .i64) y]) y ∧ K y) := by
  refine acalls_of_aw [(.int .i64)] [.t 4] Try.func46 rfl rfl rfl ?_
  unfold VC46 at h
  refine aw_seq ?_
  refine aw_region ?_
  refine awl_runp 1 [0, 1] [] (ob := (True ∧ True)) (st' := (⟨24, [(0, [], .v (.c (.p (.int .i64) k))), (1, [], .v (.c (.p (.sl (.int .i64)) w)))], []⟩ : St)) (by kernel_rfl) ⟨trivial, trivial⟩ ?_
  refine awl_nil ?_
  refine thenQ_n ?_
  refine aw_seq ?_
  refine aw_seq ?_
  refine aw_region ?_
  refine awl_runp 3 [0, 1, 9] [] (ob := (True ∧ True ∧ True ∧ True)) (st' := (⟨24, [(0, [], .v (.c (.p (.int .i64) k))), (1, [], .v (.c (.p (.sl (.int .i64)) w))), (9, [], .v (.c (.p .bool (decide ((12 : Int) < (w.length : Int))))))], []⟩ : St)) (by kernel_rfl) ⟨trivial, trivial, trivial, trivial⟩ ?_
  refine awl_nil ?_
  refine thenQ_n ?_
  refine aw_cond (b := (decide ((12 : Int) < (w.length : Int)))) (by kernel_rfl) (fun hb => ?_) (fun hb => ?_)
  · have h := h.1 hb
    refine aw_seq ?_
    refine aw_region ?_
    refine awl_runp 1 [4] [] (ob := (True ∧ True)) (st' := (⟨24, [(4, [], .v (.c (.p (.int .i64) (1 : Int))))], []⟩ : St)) (by kernel_rfl) ⟨trivial, trivial⟩ ?_
    refine awl_nil ?_
    refine thenQ_n ?_
    refine aw_ret ?_
    refine thenQ_r ?_
    exact retQ_r (σ := Int) (R := (fun y => [toV1 (.int .i64) y])) (ob := (True ∧ True)) (1 : Int) (by kernel_rfl) ⟨trivial, trivial⟩ h
  · have h := h.2 hb
    refine aw_skip ?_
    refine thenQ_n ?_
    refine aw_seq ?_
    refine aw_seq ?_
    refine aw_region ?_
    refine awl_runp 3 [0, 10, 11, 12] [] (ob := (True ∧ True ∧ True ∧ True)) (st' := (⟨24, [(0, [], .v (.c (.p (.int .i64) k))), (10, [], .v (.c (.p (.sl (.int .i64)) w))), (11, [], .v (.c (.p (.int .i64) (w.length : Int)))), (12, [], .v (.c (.p (.int .i64) (0 : Int))))], []⟩ : St)) (by kernel_rfl) ⟨trivial, trivial, trivial, trivial⟩ ?_
    refine awl_nil ?_
    refine thenQ_n ?_
    refine withJoin (σ := Unit) (fun s => (⟨24, [], []⟩ : St)) (fun s => VC46_k1 K) (fun s h => ?_) (fun rest1 => ?_)
    · have h : VC46_k1 K := h
      unfold VC46_k1 at h
      refine thenQ_n ?_
      refine aw_seq ?_
      refine aw_region ?_
      refine awl_runp 1 [4] [] (ob := (True ∧ True)) (st' := (⟨24, [(4, [], .v (.c (.p (.int .i64) (0 : Int))))], []⟩ : St)) (by kernel_rfl) ⟨trivial, trivial⟩ ?_
      refine awl_nil ?_
      refine thenQ_n ?_
      refine aw_ret ?_
      exact retQ_r (σ := Int) (R := (fun y => [toV1 (.int .i64) y])) (ob := (True ∧ True)) (0 : Int) (by kernel_rfl) ⟨trivial, trivial⟩ h
    · refine aw_block ?_
      refine aw_loop (σ := Int) (fun s => (⟨24, [(0, [], .v (.c (.p (.int .i64) k))), (10, [], .v (.c (.p (.sl (.int .i64)) w))), (11, [], .v (.c (.p (.int .i64) (w.length : Int)))), (12, [], .v (.c (.p (.int .i64) s)))], []⟩ : St)) (fun s X => VC46_l1 k w K s X) (s0 := (0 : Int)) (fun v12 X1 h => ?_) h
      have h : VC46_l1 k w K v12 X1 := h
      unfold VC46_l1 at h
      refine aw_seq ?_
      refine aw_region ?_
      refine awl_runp 1 [0, 10, 11, 12, 13] [] (ob := (True ∧ True)) (st' := (⟨24, [(0, [], .v (.c (.p (.int .i64) k))), (10, [], .v (.c (.p (.sl (.int .i64)) w))), (11, [], .v (.c (.p (.int .i64) (w.length : Int)))), (12, [], .v (.c (.p (.int .i64) v12))), (13, [], .v (.c (.p .bool (decide (v12 < (w.length : Int))))))], []⟩ : St)) (by kernel_rfl) ⟨trivial, trivial⟩ ?_
      refine awl_nil ?_
      refine thenQ_n ?_
      refine aw_seq ?_
      refine aw_cond (b := (decide (v12 < (w.length : Int)))) (by kernel_rfl) (fun hb => ?_) (fun hb => ?_)
      · have h := h.1 hb
        refine aw_skip ?_
        refine thenQ_n ?_
        refine aw_seq ?_
        refine aw_block ?_
        refine aw_seq ?_
        refine aw_region ?_
        obtain ⟨o1, h⟩ := h
        refine awl_runp 3 [0, 6, 10, 11, 12] [] (ob := (inIdx v12 w.length ∧ True ∧ True ∧ True)) (st' := (⟨24, [(0, [], .v (.c (.p (.int .i64) k))), (6, [], .v (.c (.p (.int .i64) (w.getD (v12).toNat (0 : Int))))), (10, [], .v (.c (.p (.sl (.int .i64)) w))), (11, [], .v (.c (.p (.int .i64) (w.length : Int)))), (12, [], .v (.c (.p (.int .i64) v12)))], []⟩ : St)) (by kernel_rfl) ⟨o1, trivial, trivial, trivial⟩ ?_
        refine awl_nil ?_
        refine thenQ_n ?_
        refine aw_seq ?_
        refine aw_region ?_
        refine awl_runp 7 [0, 10, 11, 12, 22] [] (ob := (True ∧ True ∧ True ∧ ((decide ((w.getD (v12).toNat (0 : Int)) < (0 : Int))) = false → True) ∧ ((decide ((w.getD (v12).toNat (0 : Int)) < (0 : Int))) = false → True) ∧ ((decide ((w.getD (v12).toNat (0 : Int)) < (0 : Int))) = false → True) ∧ True ∧ True)) (st' := (⟨24, [(0, [], .v (.c (.p (.int .i64) k))), (10, [], .v (.c (.p (.sl (.int .i64)) w))), (11, [], .v (.c (.p (.int .i64) (w.length : Int)))), (12, [], .v (.c (.p (.int .i64) v12))), (22, [], .v (.c (.p .bool ((decide ((w.getD (v12).toNat (0 : Int)) < (0 : Int))) || (decide (k ≤ (w.getD (v12).toNat (0 : Int))))))))], []⟩ : St)) (by kernel_rfl) ⟨trivial, trivial, trivial, (fun _ => trivial), (fun _ => trivial), (fun _ => trivial), trivial, trivial⟩ ?_
        refine awl_nil ?_
        refine thenQ_n ?_
        refine aw_cond (b := ((decide ((w.getD (v12).toNat (0 : Int)) < (0 : Int))) || (decide (k ≤ (w.getD (v12).toNat (0 : Int)))))) (by kernel_rfl) (fun hb => ?_) (fun hb => ?_)
        · have h := h.1 hb
          refine aw_seq ?_
          refine aw_region ?_
          refine awl_runp 1 [4] [] (ob := (True ∧ True)) (st' := (⟨24, [(4, [], .v (.c (.p (.int .i64) (2 : Int))))], []⟩ : St)) (by kernel_rfl) ⟨trivial, trivial⟩ ?_
          refine awl_nil ?_
          refine thenQ_n ?_
          refine aw_ret ?_
          refine blockQ_r ?_
          refine thenQ_r ?_
          refine thenQ_r ?_
          refine blockQ_r ?_
          refine thenQ_r ?_
          exact retQ_r (σ := Int) (R := (fun y => [toV1 (.int .i64) y])) (ob := (True ∧ True)) (2 : Int) (by kernel_rfl) ⟨trivial, trivial⟩ h
        · have h := h.2 hb
          refine aw_skip ?_
          refine blockQ_n ?_
          refine thenQ_n ?_
          refine aw_region ?_
          obtain ⟨o1, h⟩ := h
          refine awl_runp 2 [0, 10, 11, 12] [] (ob := (InR (v12 + (1 : Int)) ∧ True ∧ True)) (st' := (⟨24, [(0, [], .v (.c (.p (.int .i64) k))), (10, [], .v (.c (.p (.sl (.int .i64)) w))), (11, [], .v (.c (.p (.int .i64) (w.length : Int)))), (12, [], .v (.c (.p (.int .i64) (v12 + (1 : Int)))))], []⟩ : St)) (by kernel_rfl) ⟨o1, trivial, trivial⟩ ?_
          refine awl_nil ?_
          exact thenQ_n ⟨(v12 + (1 : Int)), rfl, h⟩
      · have h := h.2 hb
        refine aw_conv [.prune [] []] (st' := (⟨24, [], []⟩ : St)) (by kernel_rfl) ?_
        refine aw_exit ?_
        refine thenQ_x ?_
        refine thenQ_x ?_
        refine blockQ_hit ?_
        exact rest1 () h

-- coppicer/coppicerkeep.grown
def VC21 (g : (Int × (Int × (Int × (List (Int × (List Int))))))) (w : (List Int)) (K : Bool → Prop) : Prop :=
  VC18 g (fun (ret6v : Int) => gcall (α := Int) (decide (ret6v = (0 : Int))) (VC46 g.1 w) (0 : Int) (fun (ret12v : Int) => K ((decide (ret6v = (0 : Int))) && (decide (ret12v = (0 : Int))))))

set_option maxHeartbeats 4000000 in
theorem link21 (g : (Int × (Int × (Int × (List (Int × (List Int))))))) (w : (List Int)) (K : Bool → Prop) (h : VC21 g w K) : ACalls Try.prog 21 [toV1 (.pr (.int .i64) (.pr (.int .i64) (.pr (.int .i64) (.sl (.pr (.int .i64) (.sl (.int .i64))))))) g, toV1 (.sl (.int .i64)) w] (fun res => ∃ y, res = (fun y => [toV1 .bool y]) y ∧ K y) := by
  refine acalls_of_aw [.bool] [.t 4] Try.func21 rfl rfl rfl ?_
  unfold VC21 at h
  refine aw_seq ?_
  refine aw_region ?_
  refine awl_runp 2 [1, 2] [2] (ob := (True ∧ True ∧ True)) (st' := (⟨15, [(1, [], .v (.c (.p (.sl (.int .i64)) w))), (2, [], .v (.c (.ptr 2 0)))], [(2, [], .box [.p (.int .i64) g.1, .p (.int .i64) g.2.1, .p (.int .i64) g.2.2.1, .p (.sl (.pr (.int .i64) (.sl (.int .i64)))) g.2.2.2])]⟩ : St)) (by kernel_rfl) ⟨trivial, trivial, trivial⟩ ?_
  refine awl_nil ?_
  refine thenQ_n ?_
  refine aw_seq ?_
  refine aw_region ?_
  refine awl_runp 1 [1, 2, 5] [2] (ob := (True ∧ True)) (st' := (⟨15, [(1, [], .v (.c (.p (.sl (.int .i64)) w))), (2, [], .v (.c (.ptr 2 0))), (5, [], .v (.agg [.p (.int .i64) g.1, .p (.int .i64) g.2.1, .p (.int .i64) g.2.2.1, .p (.sl (.pr (.int .i64) (.sl (.int .i64)))) g.2.2.2]))], [(2, [], .box [.p (.int .i64) g.1, .p (.int .i64) g.2.1, .p (.int .i64) g.2.2.1, .p (.sl (.pr (.int .i64) (.sl (.int .i64)))) g.2.2.2])]⟩ : St)) (by kernel_rfl) ⟨trivial, trivial⟩ ?_
  refine awl_callk (p := []) (l := [toV1 (.pr (.int .i64) (.pr (.int .i64) (.pr (.int .i64) (.sl (.pr (.int .i64) (.sl (.int .i64))))))) g]) (cl := []) false [.d (.pr (.int .i64) (.pr (.int .i64) (.pr (.int .i64) (.sl (.pr (.int .i64) (.sl (.int .i64)))))))] [1, 2, 6] [2] (fun (ret6v : Int) => gcall (α := Int) (decide (ret6v = (0 : Int))) (VC46 g.1 w) (0 : Int) (fun (ret12v : Int) => K ((decide (ret6v = (0 : Int))) && (decide (ret12v = (0 : Int)))))) (fun ret6v => [toV1 (.int .i64) ret6v]) (fun ret6v => (⟨15, [(1, [], .v (.c (.p (.sl (.int .i64)) w))), (2, [], .v (.c (.ptr 2 0))), (6, [], .v (.c (.p (.int .i64) ret6v)))], [(2, [], .box [.p (.int .i64) g.1, .p (.int .i64) g.2.1, .p (.int .i64) g.2.2.1, .p (.sl (.pr (.int .i64) (.sl (.int .i64)))) g.2.2.2])]⟩ : St)) (by kernel_rfl) rfl (by kernel_rfl) rfl (by kernel_rfl) Try.call18 (by kernel_rfl) (fun ret6v => by kernel_rfl) (fun e => by cases e) (fun hg => link18 g _ h) (fun hg => noF hg) (fun ret6v h => ?_)
  have h : gcall (α := Int) (decide (ret6v = (0 : Int))) (VC46 g.1 w) (0 : Int) (fun (ret12v : Int) => K ((decide (ret6v = (0 : Int))) && (decide (ret12v = (0 : Int))))) := h
  refine awl_runp 5 [8, 10, 11] [] (ob := (True ∧ True ∧ ((decide (ret6v = (0 : Int))) = true → True) ∧ ((decide (ret6v = (0 : Int))) = true → True) ∧ ((decide (ret6v = (0 : Int))) = true → True) ∧ True)) (st' := (⟨15, [(8, [], .v (.c (.p .bool (decide (ret6v = (0 : Int)))))), (10, [(8, true)], .v (.c (.p (.int .i64) g.1))), (11, [(8, true)], .v (.c (.p (.sl (.int .i64)) w)))], []⟩ : St)) (by kernel_rfl) ⟨trivial, trivial, (fun _ => trivial), (fun _ => trivial), (fun _ => trivial), trivial⟩ ?_
  refine awl_callk (p := [(8, true)]) (l := [toV1 (.int .i64) g.1, toV1 (.sl (.int .i64)) w]) (cl := []) false [.d (.int .i64), .d (.sl (.int .i64))] [8, 12] [] (fun (ret12v : Int) => K ((decide (ret6v = (0 : Int))) && (decide (ret12v = (0 : Int))))) (fun ret12v => [toV1 (.int .i64) ret12v]) (fun ret12v => (⟨15, [(8, [], .v (.c (.p .bool (decide (ret6v = (0 : Int)))))), (12, [(8, true)], .v (.c (.p (.int .i64) ret12v)))], []⟩ : St)) (by kernel_rfl) rfl (by kernel_rfl) rfl (by kernel_rfl) Try.call46 (by kernel_rfl) (fun ret12v => by kernel_rfl) (fun e => by cases e) (fun hg => link46 g.1 w _ (by have := gcall_T h (show (decide (ret6v = (0 : Int))) = true from hg); exact this)) (fun hg => ⟨(0 : Int), by have := gcall_F h (show (decide (ret6v = (0 : Int))) = false from hg); exact this⟩) (fun ret12v h => ?_)
  have h : K ((decide (ret6v = (0 : Int))) && (decide (ret12v = (0 : Int)))) := h
  refine awl_runp 3 [4] [] (ob := (((decide (ret6v = (0 : Int))) = true → True) ∧ True ∧ True ∧ True)) (st' := (⟨15, [(4, [], .v (.c (.p .bool ((decide (ret6v = (0 : Int))) && (decide (ret12v = (0 : Int)))))))], []⟩ : St)) (by kernel_rfl) ⟨(fun _ => trivial), trivial, trivial, trivial⟩ ?_
  refine awl_nil ?_
  refine thenQ_n ?_
  refine aw_ret ?_
  exact retQ_r (σ := Bool) (R := (fun y => [toV1 .bool y])) (ob := (True ∧ True)) ((decide (ret6v = (0 : Int))) && (decide (ret12v = (0 : Int)))) (by kernel_rfl) ⟨trivial, trivial⟩ h

-- coppicer/coppicerref.Ints
def VC22_k1 (K : Bool → Prop) : Prop :=
  K true

def VC22_l1 (a : (List Int)) (b : (List Int)) (K : Bool → Prop) (i : Int) (X1 : Int → Prop) : Prop :=
  (((decide (i < (a.length : Int))) = true → (inIdx i a.length ∧ inIdx i b.length ∧ (((!decide ((a.getD (i).toNat (0 : Int)) = (b.getD (i).toNat (0 : Int)))) = true → K false) ∧ ((!decide ((a.getD (i).toNat (0 : Int)) = (b.getD (i).toNat (0 : Int)))) = false → (InR (i + (1 : Int)) ∧ X1 (i + (1 : Int))))))) ∧ ((decide (i < (a.length : Int))) = false → VC22_k1 K))

def VC22 (a : (List Int)) (b : (List Int)) (K : Bool → Prop) : Prop :=
  (((!decide ((a.length : Int) = (b.length : Int))) = true → K false) ∧ ((!decide ((a.length : Int) = (b.length : Int))) = false → Loop (σ := Int) (fun s X => VC22_l1 a b K s X) (0 : Int)))

set_option maxHeartbeats 4000000 in
theorem link22 (a : (List Int)) (b : (List Int)) (K : Bool → Prop) (h : VC22 a b K) : ACalls Try.prog 22 [toV1 (.sl (.int .i64)) a, toV1 (.sl (.int .i64)) b] (fun res => ∃ y, res = (fun y => [toV1 .bool y]) y ∧ K y) := by
  refine acalls_of_aw [.bool] [.t 4] Try.func22 rfl rfl rfl ?_
  unfold VC22 at h
  refine aw_seq ?_
  refine aw_region ?_
  refine awl_runp 1 [0, 1] [] (ob := (True ∧ True)) (st' := (⟨26, [(0, [], .v (.c (.p (.sl (.int .i64)) a))), (1, [], .v (.c (.p (.sl (.int .i64)) b)))], []⟩ : St)) (by kernel_rfl) ⟨trivial, trivial⟩ ?_
  refine awl_nil ?_
  refine thenQ_n ?_
  refine aw_seq ?_
  refine aw_seq ?_
  refine aw_region ?_
  refine awl_runp 5 [0, 1, 10] [] (ob := (True ∧ True ∧ True ∧ True ∧ True ∧ True)) (st' := (⟨26, [(0, [], .v (.c (.p (.sl (.int .i64)) a))), (1, [], .v (.c (.p (.sl (.int .i64)) b))), (10, [], .v (.c (.p .bool (!decide ((a.length : Int) = (b.length : Int))))))], []⟩ : St)) (by kernel_rfl) ⟨trivial, trivial, trivial, trivial, trivial, trivial⟩ ?_
  refine awl_nil ?_
  refine thenQ_n ?_
  refine aw_cond (b := (!decide ((a.length : Int) = (b.length : Int)))) (by kernel_rfl) (fun hb => ?_) (fun hb => ?_)
  · have h := h.1 hb
    refine aw_seq ?_
    refine aw_region ?_
    refine awl_runp 1 [4] [] (ob := (True ∧ True)) (st' := (⟨26, [(4, [], .v (.c (.p .bool false)))], []⟩ : St)) (by kernel_rfl) ⟨trivial, trivial⟩ ?_
    refine awl_nil ?_
    refine thenQ_n ?_
    refine aw_ret ?_
    refine thenQ_r ?_
    exact retQ_r (σ := Bool) (R := (fun y => [toV1 .bool y])) (ob := (True ∧ True)) false (by kernel_rfl) ⟨trivial, trivial⟩ h
  · have h := h.2 hb
    refine aw_skip ?_
    refine thenQ_n ?_
    refine aw_seq ?_
    refine aw_seq ?_
    refine aw_region ?_
    refine awl_runp 1 [0, 1, 5] [] (ob := (True ∧ True)) (st' := (⟨26, [(0, [], .v (.c (.p (.sl (.int .i64)) a))), (1, [], .v (.c (.p (.sl (.int .i64)) b))), (5, [], .v (.c (.p (.int .i64) (0 : Int))))], []⟩ : St)) (by kernel_rfl) ⟨trivial, trivial⟩ ?_
    refine awl_nil ?_
    refine thenQ_n ?_
    refine withJoin (σ := Unit) (fun s => (⟨26, [], []⟩ : St)) (fun s => VC22_k1 K) (fun s h => ?_) (fun rest1 => ?_)
    · have h : VC22_k1 K := h
      unfold VC22_k1 at h
      refine thenQ_n ?_
      refine aw_seq ?_
      refine aw_region ?_
      refine awl_runp 1 [4] [] (ob := (True ∧ True)) (st' := (⟨26, [(4, [], .v (.c (.p .bool true)))], []⟩ : St)) (by kernel_rfl) ⟨trivial, trivial⟩ ?_
      refine awl_nil ?_
      refine thenQ_n ?_
      refine aw_ret ?_
      exact retQ_r (σ := Bool) (R := (fun y => [toV1 .bool y])) (ob := (True ∧ True)) true (by kernel_rfl) ⟨trivial, trivial⟩ h
    · refine aw_block ?_
      refine aw_loop (σ := Int) (fun s => (⟨26, [(0, [], .v (.c (.p (.sl (.int .i64)) a))), (1, [], .v (.c (.p (.sl (.int .i64)) b))), (5, [], .v (.c (.p (.int .i64) s)))], []⟩ : St)) (fun s X => VC22_l1 a b K s X) (s0 := (0 : Int)) (fun i X1 h => ?_) h
      have h : VC22_l1 a b K i X1 := h
      unfold VC22_l1 at h
      refine aw_seq ?_
      refine aw_seq ?_
      refine aw_region ?_
      refine awl_runp 4 [0, 1, 5, 14] [] (ob := (True ∧ True ∧ True ∧ True ∧ True)) (st' := (⟨26, [(0, [], .v (.c (.p (.sl (.int .i64)) a))), (1, [], .v (.c (.p (.sl (.int .i64)) b))), (5, [], .v (.c (.p (.int .i64) i))), (14, [], .v (.c (.p .bool (decide (i < (a.length : Int))))))], []⟩ : St)) (by kernel_rfl) ⟨trivial, trivial, trivial, trivial, trivial⟩ ?_
      refine awl_nil ?_
      refine thenQ_n ?_
      refine aw_cond (b := (decide (i < (a.length : Int)))) (by kernel_rfl) (fun hb => ?_) (fun hb => ?_)
      · have h := h.1 hb
        refine aw_skip ?_
        refine thenQ_n ?_
        refine aw_seq ?_
        refine aw_block ?_
        refine aw_seq ?_
        refine awd_begin [] (by kernel_rfl) ?_
        obtain ⟨o1, o2, h⟩ := h
        refine awd_runp (by kernel_rfl) [0, 1, 2, 3, 4, 5, 6, 7, 8] [0, 1, 5, 25] [] (ob := (True ∧ True ∧ inIdx i a.length ∧ True ∧ True ∧ True ∧ inIdx i b.length ∧ True ∧ True ∧ True)) (done' := [8, 7, 6, 5, 4, 3, 2, 1, 0]) (st' := (⟨26, [(0, [], .v (.c (.p (.sl (.int .i64)) a))), (1, [], .v (.c (.p (.sl (.int .i64)) b))), (5, [], .v (.c (.p (.int .i64) i))), (25, [], .v (.c (.p .bool (!decide ((a.getD (i).toNat (0 : Int)) = (b.getD (i).toNat (0 : Int)))))))], []⟩ : St)) (by kernel_rfl) ⟨trivial, trivial, o1, trivial, trivial, trivial, o2, trivial, trivial, trivial⟩ ?_
        refine awd_done (by kernel_rfl) ?_
        refine thenQ_n ?_
        refine aw_cond (b := (!decide ((a.getD (i).toNat (0 : Int)) = (b.getD (i).toNat (0 : Int))))) (by kernel_rfl) (fun hb => ?_) (fun hb => ?_)
        · have h := h.1 hb
          refine aw_seq ?_
          refine aw_region ?_
          refine awl_runp 1 [4] [] (ob := (True ∧ True)) (st' := (⟨26, [(4, [], .v (.c (.p .bool false)))], []⟩ : St)) (by kernel_rfl) ⟨trivial, trivial⟩ ?_
          refine awl_nil ?_
          refine thenQ_n ?_
          refine aw_ret ?_
          refine blockQ_r ?_
          refine thenQ_r ?_
          refine thenQ_r ?_
          refine blockQ_r ?_
          refine thenQ_r ?_
          exact retQ_r (σ := Bool) (R := (fun y => [toV1 .bool y])) (ob := (True ∧ True)) false (by kernel_rfl) ⟨trivial, trivial⟩ h
        · have h := h.2 hb
          refine aw_skip ?_
          refine blockQ_n ?_
          refine thenQ_n ?_
          refine aw_region ?_
          obtain ⟨o1, h⟩ := h
          refine awl_runp 3 [0, 1, 5] [] (ob := (True ∧ InR (i + (1 : Int)) ∧ True ∧ True)) (st' := (⟨26, [(0, [], .v (.c (.p (.sl (.int .i64)) a))), (1, [], .v (.c (.p (.sl (.int .i64)) b))), (5, [], .v (.c (.p (.int .i64) (i + (1 : Int)))))], []⟩ : St)) (by kernel_rfl) ⟨trivial, o1, trivial, trivial⟩ ?_
          refine awl_nil ?_
          exact thenQ_n ⟨(i + (1 : Int)), rfl, h⟩
      · have h := h.2 hb
        refine aw_conv [.prune [] []] (st' := (⟨26, [], []⟩ : St)) (by kernel_rfl) ?_
        refine aw_exit ?_
        refine thenQ_x ?_
        refine thenQ_x ?_
        refine blockQ_hit ?_
        exact rest1 () h

end Dec
