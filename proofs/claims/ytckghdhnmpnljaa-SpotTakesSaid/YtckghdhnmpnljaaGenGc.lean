/-
  Printed by dec2.py: of each function its plain demand, and that the demand gives the contract.
-/
import Derived.Test.YtckghdhnmpnljaaGenGb
set_option linter.unusedVariables false
set_option linter.unusedSimpArgs false
set_option maxRecDepth 100000
namespace Dec
open Go Go.RowKit Go.Proofs

-- coppicer/glyph.Make
def VC60_k1 (K : (LI × (LL × LI)) → Prop) (ret24v : (LI × (LI × Bool)) × LI × LL) (b : Int) (b2 : Int) (b3 : Int) (b4 : Int) (b5 : Int) : Prop :=
  K (ret24v.2.1, ((ret24v.2.2.set (((0 : Int)).toNat) [(ret24v.1.1.getD 0 0), (ret24v.1.1.getD 1 0), (ret24v.1.1.getD 2 0), (ret24v.1.1.getD 3 0), (ret24v.1.1.getD 4 0)]), [b, b2, b3, b4, b5]))

def VC60 (l : LN) (K : (LI × (LL × LI)) → Prop) : Prop :=
  VC49 l (fun (ret9v : LB × LB) => (InR ((l.length : Int) - (1 : Int)) ∧ VCcr93 l ret9v.1 (0 : Int) (0 : Int) (0 : Int) (0 : Int) (0 : Int) ((l.length : Int) - (1 : Int)) [(-1 : Int)] [[(0 : Int), (0 : Int), (0 : Int), (0 : Int), (0 : Int)]] (fun (ret24v : (LI × (LI × Bool)) × LI × LL) => (inIdx (0 : Int) ret24v.2.2.length ∧ ((ret24v.1.2.2 = true → VC88 [(ret24v.1.2.1.getD 0 0), (ret24v.1.2.1.getD 1 0), (ret24v.1.2.1.getD 2 0), (ret24v.1.2.1.getD 3 0), (ret24v.1.2.1.getD 4 0)] (0 : Int) (fun (ret47v : LI) => VC60_k1 K ret24v (ret47v.getD 0 0) (ret47v.getD 1 0) (ret47v.getD 2 0) (ret47v.getD 3 0) (ret47v.getD 4 0))) ∧ (ret24v.1.2.2 = false → VC60_k1 K ret24v (ret24v.1.2.1.getD 0 0) (ret24v.1.2.1.getD 1 0) (ret24v.1.2.1.getD 2 0) (ret24v.1.2.1.getD 3 0) (ret24v.1.2.1.getD 4 0)))))))

set_option maxHeartbeats 4000000 in
theorem link60 (l : LN) (K : (LI × (LL × LI)) → Prop) (h : VC60 l K) : ACalls Try.prog 60 [toV1 (.sl t3) l] (fun res => ∃ y, res = (fun y => [toV1 (.pr (.sl (.int .i64)) (.pr (.sl (.ar 4 (.int .u64))) (.ar 4 (.int .u64)))) y]) y ∧ K y) := by
  refine acalls_of_aw [(.pr (.sl (.int .i64)) (.pr (.sl (.ar 4 (.int .u64))) (.ar 4 (.int .u64))))] [.c 2 116] Try.func60 rfl rfl rfl ?_
  unfold VC60 at h
  refine aw_seq ?_
  refine aw_region ?_
  refine awl_runp 1 [0, 2] [2] (ob := (True ∧ True)) (st' := (⟨55, [(0, [], .v (.c (.p (.sl t3) l))), (2, [], .v (.c (.ptr 2 0)))], [(2, [], .box [.nils, .nils, .pU (0 : Int), .pU (0 : Int), .pU (0 : Int), .pU (0 : Int), .pU (0 : Int)])]⟩ : St)) (by kernel_rfl) ⟨trivial, trivial⟩ ?_
  refine awl_nil ?_
  refine thenQ_n ?_
  refine aw_seq ?_
  refine aw_region ?_
  refine awl_runp 1 [0, 2, 8] [2] (ob := (True ∧ True)) (st' := (⟨55, [(0, [], .v (.c (.p (.sl t3) l))), (2, [], .v (.c (.ptr 2 0))), (8, [], .v (.c (.p (.sl t3) l)))], [(2, [], .box [.nils, .nils, .pU (0 : Int), .pU (0 : Int), .pU (0 : Int), .pU (0 : Int), .pU (0 : Int)])]⟩ : St)) (by kernel_rfl) ⟨trivial, trivial⟩ ?_
  refine awl_callk (p := []) (l := [toV1 (.sl t3) l]) (cl := []) false [.d (.sl t3)] [0, 2, 9] [2] (fun (ret9v : LB × LB) => (InR ((l.length : Int) - (1 : Int)) ∧ VCcr93 l ret9v.1 (0 : Int) (0 : Int) (0 : Int) (0 : Int) (0 : Int) ((l.length : Int) - (1 : Int)) [(-1 : Int)] [[(0 : Int), (0 : Int), (0 : Int), (0 : Int), (0 : Int)]] (fun (ret24v : (LI × (LI × Bool)) × LI × LL) => (inIdx (0 : Int) ret24v.2.2.length ∧ ((ret24v.1.2.2 = true → VC88 [(ret24v.1.2.1.getD 0 0), (ret24v.1.2.1.getD 1 0), (ret24v.1.2.1.getD 2 0), (ret24v.1.2.1.getD 3 0), (ret24v.1.2.1.getD 4 0)] (0 : Int) (fun (ret47v : LI) => VC60_k1 K ret24v (ret47v.getD 0 0) (ret47v.getD 1 0) (ret47v.getD 2 0) (ret47v.getD 3 0) (ret47v.getD 4 0))) ∧ (ret24v.1.2.2 = false → VC60_k1 K ret24v (ret24v.1.2.1.getD 0 0) (ret24v.1.2.1.getD 1 0) (ret24v.1.2.1.getD 2 0) (ret24v.1.2.1.getD 3 0) (ret24v.1.2.1.getD 4 0))))))) (fun ret9v => [toV1 (.sl .bool) ret9v.1, toV1 (.sl .bool) ret9v.2]) (fun ret9v => (⟨55, [(0, [], .v (.c (.p (.sl t3) l))), (2, [], .v (.c (.ptr 2 0))), (9, [], .tup [.c (.p (.sl .bool) ret9v.1), .c (.p (.sl .bool) ret9v.2)])], [(2, [], .box [.nils, .nils, .pU (0 : Int), .pU (0 : Int), .pU (0 : Int), .pU (0 : Int), .pU (0 : Int)])]⟩ : St)) (by kernel_rfl) rfl (by kernel_rfl) rfl (by kernel_rfl) Try.call49 (by kernel_rfl) (fun ret9v => by kernel_rfl) (fun e => by cases e) (fun hg => link49 l _ h) (fun hg => noF hg) (fun ret9v h => ?_)
  have h : (InR ((l.length : Int) - (1 : Int)) ∧ VCcr93 l ret9v.1 (0 : Int) (0 : Int) (0 : Int) (0 : Int) (0 : Int) ((l.length : Int) - (1 : Int)) [(-1 : Int)] [[(0 : Int), (0 : Int), (0 : Int), (0 : Int), (0 : Int)]] (fun (ret24v : (LI × (LI × Bool)) × LI × LL) => (inIdx (0 : Int) ret24v.2.2.length ∧ ((ret24v.1.2.2 = true → VC88 [(ret24v.1.2.1.getD 0 0), (ret24v.1.2.1.getD 1 0), (ret24v.1.2.1.getD 2 0), (ret24v.1.2.1.getD 3 0), (ret24v.1.2.1.getD 4 0)] (0 : Int) (fun (ret47v : LI) => VC60_k1 K ret24v (ret47v.getD 0 0) (ret47v.getD 1 0) (ret47v.getD 2 0) (ret47v.getD 3 0) (ret47v.getD 4 0))) ∧ (ret24v.1.2.2 = false → VC60_k1 K ret24v (ret24v.1.2.1.getD 0 0) (ret24v.1.2.1.getD 1 0) (ret24v.1.2.1.getD 2 0) (ret24v.1.2.1.getD 3 0) (ret24v.1.2.1.getD 4 0)))))) := h
  refine awl_runp 5 [0, 2, 3] [2] (ob := (True ∧ True ∧ True ∧ True ∧ True ∧ True)) (st' := (⟨55, [(0, [], .v (.c (.p (.sl t3) l))), (2, [], .v (.c (.ptr 2 0))), (3, [], .v (.c (.p (.sl .bool) ret9v.1)))], [(2, [], .box [.nils, .nils, .pU (0 : Int), .pU (0 : Int), .pU (0 : Int), .pU (0 : Int), .pU (0 : Int)])]⟩ : St)) (by kernel_rfl) ⟨trivial, trivial, trivial, trivial, trivial, trivial⟩ ?_
  refine awl_nil ?_
  refine thenQ_n ?_
  refine aw_seq ?_
  refine aw_region ?_
  refine awl_runp 9 [0, 2, 5] [2, 14, 16, 19] (ob := (True ∧ True ∧ True ∧ True ∧ True ∧ True ∧ True ∧ True ∧ True ∧ True)) (st' := (⟨55, [(0, [], .v (.c (.p (.sl t3) l))), (2, [], .v (.c (.ptr 2 0))), (5, [], .v (.c (.ptr 19 0)))], [(2, [], .box [.nils, .nils, .pU (0 : Int), .pU (0 : Int), .pU (0 : Int), .pU (0 : Int), .pU (0 : Int)]), (14, [], .arr 3 (.int .i64) [(-1 : Int)]), (16, [], .arr 114 (.ar 4 (.int .u64)) [[(0 : Int), (0 : Int), (0 : Int), (0 : Int), (0 : Int)]]), (19, [], .box [.p (.sl t3) l, .p (.sl .bool) ret9v.1, .own 14, .own 16, .pU (0 : Int), .pU (0 : Int), .pU (0 : Int), .pU (0 : Int), .pU (0 : Int)])]⟩ : St)) (by kernel_rfl) ⟨trivial, trivial, trivial, trivial, trivial, trivial, trivial, trivial, trivial, trivial⟩ ?_
  refine awl_nil ?_
  refine thenQ_n ?_
  refine aw_seq ?_
  refine aw_region ?_
  obtain ⟨o1, h⟩ := h
  refine awl_runp 4 [2, 5, 20, 23] [2, 14, 16, 19] (ob := (True ∧ True ∧ True ∧ InR ((l.length : Int) - (1 : Int)) ∧ True)) (st' := (⟨55, [(2, [], .v (.c (.ptr 2 0))), (5, [], .v (.c (.ptr 19 0))), (20, [], .v (.c (.ptr 19 0))), (23, [], .v (.c (.pI ((l.length : Int) - (1 : Int)))))], [(2, [], .box [.nils, .nils, .pU (0 : Int), .pU (0 : Int), .pU (0 : Int), .pU (0 : Int), .pU (0 : Int)]), (14, [], .arr 3 (.int .i64) [(-1 : Int)]), (16, [], .arr 114 (.ar 4 (.int .u64)) [[(0 : Int), (0 : Int), (0 : Int), (0 : Int), (0 : Int)]]), (19, [], .box [.p (.sl t3) l, .p (.sl .bool) ret9v.1, .own 14, .own 16, .pU (0 : Int), .pU (0 : Int), .pU (0 : Int), .pU (0 : Int), .pU (0 : Int)])]⟩ : St)) (by kernel_rfl) ⟨trivial, trivial, trivial, o1, trivial⟩ ?_
  refine awl_conv [.ren 19 40000, .ren 14 40001, .ren 16 40002] (st' := (⟨55, [(2, [], .v (.c (.ptr 2 0))), (5, [], .v (.c (.ptr 40000 0))), (20, [], .v (.c (.ptr 40000 0))), (23, [], .v (.c (.pI ((l.length : Int) - (1 : Int)))))], [(2, [], .box [.nils, .nils, .pU (0 : Int), .pU (0 : Int), .pU (0 : Int), .pU (0 : Int), .pU (0 : Int)]), (40001, [], .arr 3 (.int .i64) [(-1 : Int)]), (40002, [], .arr 114 (.ar 4 (.int .u64)) [[(0 : Int), (0 : Int), (0 : Int), (0 : Int), (0 : Int)]]), (40000, [], .box [.p (.sl t3) l, .p (.sl .bool) ret9v.1, .own 40001, .own 40002, .pU (0 : Int), .pU (0 : Int), .pU (0 : Int), .pU (0 : Int), .pU (0 : Int)])]⟩ : St)) (by kernel_rfl) ?_
  refine awl_lcall (σ := (LI × (LI × Bool)) × LI × LL) [40000, 40001, 40002] [40000] [.c (.ptr 40000 0), .c (.pI ((l.length : Int) - (1 : Int)))] [] (fun ret24v => .v (.agg [.pU (ret24v.1.1.getD 0 0), .pU (ret24v.1.1.getD 1 0), .pU (ret24v.1.1.getD 2 0), .pU (ret24v.1.1.getD 3 0), .pU (ret24v.1.1.getD 4 0), .pU (ret24v.1.2.1.getD 0 0), .pU (ret24v.1.2.1.getD 1 0), .pU (ret24v.1.2.1.getD 2 0), .pU (ret24v.1.2.1.getD 3 0), .pU (ret24v.1.2.1.getD 4 0), .pB ret24v.1.2.2])) (fun ret24v => [(40000, [], .box [.p (.sl t3) l, .p (.sl .bool) ret9v.1, .own 40001, .own 40002, .pU (0 : Int), .pU (0 : Int), .pU (0 : Int), .pU (0 : Int), .pU (0 : Int)]), (40001, [], .arr 3 (.int .i64) ret24v.2.1), (40002, [], .arr 114 (.ar 4 (.int .u64)) ret24v.2.2)]) (fun (ret24v : (LI × (LI × Bool)) × LI × LL) => (inIdx (0 : Int) ret24v.2.2.length ∧ ((ret24v.1.2.2 = true → VC88 [(ret24v.1.2.1.getD 0 0), (ret24v.1.2.1.getD 1 0), (ret24v.1.2.1.getD 2 0), (ret24v.1.2.1.getD 3 0), (ret24v.1.2.1.getD 4 0)] (0 : Int) (fun (ret47v : LI) => VC60_k1 K ret24v (ret47v.getD 0 0) (ret47v.getD 1 0) (ret47v.getD 2 0) (ret47v.getD 3 0) (ret47v.getD 4 0))) ∧ (ret24v.1.2.2 = false → VC60_k1 K ret24v (ret24v.1.2.1.getD 0 0) (ret24v.1.2.1.getD 1 0) (ret24v.1.2.1.getD 2 0) (ret24v.1.2.1.getD 3 0) (ret24v.1.2.1.getD 4 0))))) [(40000, [], .box [.p (.sl t3) l, .p (.sl .bool) ret9v.1, .own 40001, .own 40002, .pU (0 : Int), .pU (0 : Int), .pU (0 : Int), .pU (0 : Int), .pU (0 : Int)]), (40001, [], .arr 3 (.int .i64) [(-1 : Int)]), (40002, [], .arr 114 (.ar 4 (.int .u64)) [[(0 : Int), (0 : Int), (0 : Int), (0 : Int), (0 : Int)]])] (fun ret24v => (⟨55, [(24, [], .v (.agg [.pU (ret24v.1.1.getD 0 0), .pU (ret24v.1.1.getD 1 0), .pU (ret24v.1.1.getD 2 0), .pU (ret24v.1.1.getD 3 0), .pU (ret24v.1.1.getD 4 0), .pU (ret24v.1.2.1.getD 0 0), .pU (ret24v.1.2.1.getD 1 0), .pU (ret24v.1.2.1.getD 2 0), .pU (ret24v.1.2.1.getD 3 0), .pU (ret24v.1.2.1.getD 4 0), .pB ret24v.1.2.2])), (2, [], .v (.c (.ptr 2 0))), (5, [], .v (.c (.ptr 40000 0))), (20, [], .v (.c (.ptr 40000 0))), (23, [], .v (.c (.pI ((l.length : Int) - (1 : Int)))))], [(40000, [], .box [.p (.sl t3) l, .p (.sl .bool) ret9v.1, .own 40001, .own 40002, .pU (0 : Int), .pU (0 : Int), .pU (0 : Int), .pU (0 : Int), .pU (0 : Int)]), (40001, [], .arr 3 (.int .i64) ret24v.2.1), (40002, [], .arr 114 (.ar 4 (.int .u64)) ret24v.2.2), (2, [], .box [.nils, .nils, .pU (0 : Int), .pU (0 : Int), .pU (0 : Int), .pU (0 : Int), .pU (0 : Int)])]⟩ : St)) rfl rfl (by kernel_rfl) rfl (by kernel_rfl) Try.call93 (by kernel_rfl) (by kernel_rfl) (by kernel_rfl) (fun _ _ => rfl) (fun _ => by kernel_rfl) (linkcr93 l ret9v.1 (0 : Int) (0 : Int) (0 : Int) (0 : Int) (0 : Int) ((l.length : Int) - (1 : Int)) [(-1 : Int)] [[(0 : Int), (0 : Int), (0 : Int), (0 : Int), (0 : Int)]] _ h) (fun ret24v h => ?_)
  have h : (inIdx (0 : Int) ret24v.2.2.length ∧ ((ret24v.1.2.2 = true → VC88 [(ret24v.1.2.1.getD 0 0), (ret24v.1.2.1.getD 1 0), (ret24v.1.2.1.getD 2 0), (ret24v.1.2.1.getD 3 0), (ret24v.1.2.1.getD 4 0)] (0 : Int) (fun (ret47v : LI) => VC60_k1 K ret24v (ret47v.getD 0 0) (ret47v.getD 1 0) (ret47v.getD 2 0) (ret47v.getD 3 0) (ret47v.getD 4 0))) ∧ (ret24v.1.2.2 = false → VC60_k1 K ret24v (ret24v.1.2.1.getD 0 0) (ret24v.1.2.1.getD 1 0) (ret24v.1.2.1.getD 2 0) (ret24v.1.2.1.getD 3 0) (ret24v.1.2.1.getD 4 0)))) := h
  refine awl_conv [.prune [2, 5, 24] [2, 40000, 40001, 40002]] (st' := (⟨55, [(2, [], .v (.c (.ptr 2 0))), (5, [], .v (.c (.ptr 40000 0))), (24, [], .v (.agg [.pU (ret24v.1.1.getD 0 0), .pU (ret24v.1.1.getD 1 0), .pU (ret24v.1.1.getD 2 0), .pU (ret24v.1.1.getD 3 0), .pU (ret24v.1.1.getD 4 0), .pU (ret24v.1.2.1.getD 0 0), .pU (ret24v.1.2.1.getD 1 0), .pU (ret24v.1.2.1.getD 2 0), .pU (ret24v.1.2.1.getD 3 0), .pU (ret24v.1.2.1.getD 4 0), .pB ret24v.1.2.2]))], [(2, [], .box [.nils, .nils, .pU (0 : Int), .pU (0 : Int), .pU (0 : Int), .pU (0 : Int), .pU (0 : Int)]), (40000, [], .box [.p (.sl t3) l, .p (.sl .bool) ret9v.1, .own 40001, .own 40002, .pU (0 : Int), .pU (0 : Int), .pU (0 : Int), .pU (0 : Int), .pU (0 : Int)]), (40001, [], .arr 3 (.int .i64) ret24v.2.1), (40002, [], .arr 114 (.ar 4 (.int .u64)) ret24v.2.2)]⟩ : St)) (by kernel_rfl) ?_
  refine awl_runp 2 [2, 5, 6] [2, 6, 40000, 40001, 40002] (ob := (True ∧ True ∧ True)) (st' := (⟨55, [(2, [], .v (.c (.ptr 2 0))), (5, [], .v (.c (.ptr 40000 0))), (6, [], .v (.c (.ptr 6 0)))], [(2, [], .box [.nils, .nils, .pU (0 : Int), .pU (0 : Int), .pU (0 : Int), .pU (0 : Int), .pU (0 : Int)]), (6, [], .box [.pU (ret24v.1.1.getD 0 0), .pU (ret24v.1.1.getD 1 0), .pU (ret24v.1.1.getD 2 0), .pU (ret24v.1.1.getD 3 0), .pU (ret24v.1.1.getD 4 0), .pU (ret24v.1.2.1.getD 0 0), .pU (ret24v.1.2.1.getD 1 0), .pU (ret24v.1.2.1.getD 2 0), .pU (ret24v.1.2.1.getD 3 0), .pU (ret24v.1.2.1.getD 4 0), .pB ret24v.1.2.2]), (40000, [], .box [.p (.sl t3) l, .p (.sl .bool) ret9v.1, .own 40001, .own 40002, .pU (0 : Int), .pU (0 : Int), .pU (0 : Int), .pU (0 : Int), .pU (0 : Int)]), (40001, [], .arr 3 (.int .i64) ret24v.2.1), (40002, [], .arr 114 (.ar 4 (.int .u64)) ret24v.2.2)]⟩ : St)) (by kernel_rfl) ⟨trivial, trivial, trivial⟩ ?_
  refine awl_nil ?_
  refine thenQ_n ?_
  refine aw_seq ?_
  refine awd_begin [40002] (by kernel_rfl) ?_
  obtain ⟨o1, h⟩ := h
  refine awd_runp (by kernel_rfl) [0, 1, 2, 3, 4, 5, 6, 7] [2, 5, 6, 31, 32] [2, 6, 40000, 40001, 40002] (ob := (True ∧ True ∧ True ∧ True ∧ True ∧ True ∧ True ∧ inIdx (0 : Int) ret24v.2.2.length ∧ True)) (done' := [7, 6, 5, 4, 3, 2, 1, 0]) (st' := (⟨55, [(2, [], .v (.c (.ptr 2 0))), (5, [], .v (.c (.ptr 40000 0))), (6, [], .v (.c (.ptr 6 0))), (31, [], .v (.agg [.pU (ret24v.1.1.getD 0 0), .pU (ret24v.1.1.getD 1 0), .pU (ret24v.1.1.getD 2 0), .pU (ret24v.1.1.getD 3 0), .pU (ret24v.1.1.getD 4 0)])), (32, [], .v (.c (.el 40002 (((0 : Int)).toNat) 5)))], [(2, [], .box [.nils, .nils, .pU (0 : Int), .pU (0 : Int), .pU (0 : Int), .pU (0 : Int), .pU (0 : Int)]), (6, [], .box [.pU (ret24v.1.1.getD 0 0), .pU (ret24v.1.1.getD 1 0), .pU (ret24v.1.1.getD 2 0), .pU (ret24v.1.1.getD 3 0), .pU (ret24v.1.1.getD 4 0), .pU (ret24v.1.2.1.getD 0 0), .pU (ret24v.1.2.1.getD 1 0), .pU (ret24v.1.2.1.getD 2 0), .pU (ret24v.1.2.1.getD 3 0), .pU (ret24v.1.2.1.getD 4 0), .pB ret24v.1.2.2]), (40000, [], .box [.p (.sl t3) l, .p (.sl .bool) ret9v.1, .own 40001, .own 40002, .pU (0 : Int), .pU (0 : Int), .pU (0 : Int), .pU (0 : Int), .pU (0 : Int)]), (40001, [], .arr 3 (.int .i64) ret24v.2.1), (40002, [], .arr 114 (.ar 4 (.int .u64)) ret24v.2.2)]⟩ : St)) (by kernel_rfl) ⟨trivial, trivial, trivial, trivial, trivial, trivial, trivial, o1, trivial⟩ ?_
  refine awd_one (i := 8) (by kernel_rfl) ?_
  refine adop_stepp [2, 5, 6] [2, 6, 40000, 40001, 40002] (ob := True) (st' := (⟨55, [(2, [], .v (.c (.ptr 2 0))), (5, [], .v (.c (.ptr 40000 0))), (6, [], .v (.c (.ptr 6 0)))], [(2, [], .box [.nils, .nils, .pU (0 : Int), .pU (0 : Int), .pU (0 : Int), .pU (0 : Int), .pU (0 : Int)]), (6, [], .box [.pU (ret24v.1.1.getD 0 0), .pU (ret24v.1.1.getD 1 0), .pU (ret24v.1.1.getD 2 0), .pU (ret24v.1.1.getD 3 0), .pU (ret24v.1.1.getD 4 0), .pU (ret24v.1.2.1.getD 0 0), .pU (ret24v.1.2.1.getD 1 0), .pU (ret24v.1.2.1.getD 2 0), .pU (ret24v.1.2.1.getD 3 0), .pU (ret24v.1.2.1.getD 4 0), .pB ret24v.1.2.2]), (40000, [], .box [.p (.sl t3) l, .p (.sl .bool) ret9v.1, .own 40001, .own 40002, .pU (0 : Int), .pU (0 : Int), .pU (0 : Int), .pU (0 : Int), .pU (0 : Int)]), (40001, [], .arr 3 (.int .i64) ret24v.2.1), (40002, [], .arr 114 (.ar 4 (.int .u64)) (ret24v.2.2.set (((0 : Int)).toNat) [(ret24v.1.1.getD 0 0), (ret24v.1.1.getD 1 0), (ret24v.1.1.getD 2 0), (ret24v.1.1.getD 3 0), (ret24v.1.1.getD 4 0)]))]⟩ : St)) rfl (by kernel_rfl) trivial ?_
  refine awd_done (by kernel_rfl) ?_
  refine thenQ_n ?_
  refine aw_seq ?_
  refine aw_region ?_
  refine awl_runp 7 [2, 5, 6] [2, 6, 40000, 40001, 40002] (ob := (True ∧ True ∧ True ∧ True ∧ True ∧ True ∧ True ∧ True)) (st' := (⟨55, [(2, [], .v (.c (.ptr 2 0))), (5, [], .v (.c (.ptr 40000 0))), (6, [], .v (.c (.ptr 6 0)))], [(2, [], .box [.nils, .nils, .pU (0 : Int), .pU (0 : Int), .pU (0 : Int), .pU (0 : Int), .pU (0 : Int)]), (6, [], .box [.pU (ret24v.1.1.getD 0 0), .pU (ret24v.1.1.getD 1 0), .pU (ret24v.1.1.getD 2 0), .pU (ret24v.1.1.getD 3 0), .pU (ret24v.1.1.getD 4 0), .pU (ret24v.1.2.1.getD 0 0), .pU (ret24v.1.2.1.getD 1 0), .pU (ret24v.1.2.1.getD 2 0), .pU (ret24v.1.2.1.getD 3 0), .pU (ret24v.1.2.1.getD 4 0), .pB ret24v.1.2.2]), (40000, [], .box [.p (.sl t3) l, .p (.sl .bool) ret9v.1, .own 40001, .own 40002, .pU (ret24v.1.2.1.getD 0 0), .pU (ret24v.1.2.1.getD 1 0), .pU (ret24v.1.2.1.getD 2 0), .pU (ret24v.1.2.1.getD 3 0), .pU (ret24v.1.2.1.getD 4 0)]), (40001, [], .arr 3 (.int .i64) ret24v.2.1), (40002, [], .arr 114 (.ar 4 (.int .u64)) (ret24v.2.2.set (((0 : Int)).toNat) [(ret24v.1.1.getD 0 0), (ret24v.1.1.getD 1 0), (ret24v.1.1.getD 2 0), (ret24v.1.1.getD 3 0), (ret24v.1.1.getD 4 0)]))]⟩ : St)) (by kernel_rfl) ⟨trivial, trivial, trivial, trivial, trivial, trivial, trivial, trivial⟩ ?_
  refine awl_nil ?_
  refine thenQ_n ?_
  refine aw_seq ?_
  refine aw_seq ?_
  refine aw_region ?_
  refine awl_runp 2 [2, 5, 40] [2, 40000, 40001, 40002] (ob := (True ∧ True ∧ True)) (st' := (⟨55, [(2, [], .v (.c (.ptr 2 0))), (5, [], .v (.c (.ptr 40000 0))), (40, [], .v (.c (.pB ret24v.1.2.2)))], [(2, [], .box [.nils, .nils, .pU (0 : Int), .pU (0 : Int), .pU (0 : Int), .pU (0 : Int), .pU (0 : Int)]), (40000, [], .box [.p (.sl t3) l, .p (.sl .bool) ret9v.1, .own 40001, .own 40002, .pU (ret24v.1.2.1.getD 0 0), .pU (ret24v.1.2.1.getD 1 0), .pU (ret24v.1.2.1.getD 2 0), .pU (ret24v.1.2.1.getD 3 0), .pU (ret24v.1.2.1.getD 4 0)]), (40001, [], .arr 3 (.int .i64) ret24v.2.1), (40002, [], .arr 114 (.ar 4 (.int .u64)) (ret24v.2.2.set (((0 : Int)).toNat) [(ret24v.1.1.getD 0 0), (ret24v.1.1.getD 1 0), (ret24v.1.1.getD 2 0), (ret24v.1.1.getD 3 0), (ret24v.1.1.getD 4 0)]))]⟩ : St)) (by kernel_rfl) ⟨trivial, trivial, trivial⟩ ?_
  refine awl_nil ?_
  refine thenQ_n ?_
  refine withJoin (σ := Int × Int × Int × Int × Int) (fun s => (⟨55, [(2, [], .v (.c (.ptr 2 0))), (5, [], .v (.c (.ptr 40000 0)))], [(2, [], .box [.nils, .nils, .pU (0 : Int), .pU (0 : Int), .pU (0 : Int), .pU (0 : Int), .pU (0 : Int)]), (40000, [], .box [.p (.sl t3) l, .p (.sl .bool) ret9v.1, .own 40001, .own 40002, .pU s.1, .pU s.2.1, .pU s.2.2.1, .pU s.2.2.2.1, .pU s.2.2.2.2]), (40001, [], .arr 3 (.int .i64) ret24v.2.1), (40002, [], .arr 114 (.ar 4 (.int .u64)) (ret24v.2.2.set (((0 : Int)).toNat) [(ret24v.1.1.getD 0 0), (ret24v.1.1.getD 1 0), (ret24v.1.1.getD 2 0), (ret24v.1.1.getD 3 0), (ret24v.1.1.getD 4 0)]))]⟩ : St)) (fun s => VC60_k1 K ret24v s.1 s.2.1 s.2.2.1 s.2.2.2.1 s.2.2.2.2) (fun s h => ?_) (fun rest1 => ?_)
  · obtain ⟨b, b2, b3, b4, b5⟩ := s
    have h : VC60_k1 K ret24v b b2 b3 b4 b5 := h
    unfold VC60_k1 at h
    refine thenQ_n ?_
    refine aw_seq ?_
    refine aw_region ?_
    refine awl_runp 5 [2] [2, 40001, 40002] (ob := (True ∧ True ∧ True ∧ True ∧ True ∧ True)) (st' := (⟨55, [(2, [], .v (.c (.ptr 2 0)))], [(2, [], .box [.own 40001, .own 40002, .pU b, .pU b2, .pU b3, .pU b4, .pU b5]), (40001, [], .arr 3 (.int .i64) ret24v.2.1), (40002, [], .arr 114 (.ar 4 (.int .u64)) (ret24v.2.2.set (((0 : Int)).toNat) [(ret24v.1.1.getD 0 0), (ret24v.1.1.getD 1 0), (ret24v.1.1.getD 2 0), (ret24v.1.1.getD 3 0), (ret24v.1.1.getD 4 0)]))]⟩ : St)) (by kernel_rfl) ⟨trivial, trivial, trivial, trivial, trivial, trivial⟩ ?_
    refine awl_nil ?_
    refine thenQ_n ?_
    refine aw_conv [.freeze 40001, .freeze 40002] (st' := (⟨55, [(2, [], .v (.c (.ptr 2 0)))], [(2, [], .box [.pS ret24v.2.1, .p (.sl (.ar 4 (.int .u64))) (ret24v.2.2.set (((0 : Int)).toNat) [(ret24v.1.1.getD 0 0), (ret24v.1.1.getD 1 0), (ret24v.1.1.getD 2 0), (ret24v.1.1.getD 3 0), (ret24v.1.1.getD 4 0)]), .pU b, .pU b2, .pU b3, .pU b4, .pU b5])]⟩ : St)) (by kernel_rfl) ?_
    refine aw_ret ?_
    exact retQ_r (σ := (LI × (LL × LI))) (R := (fun y => [toV1 (.pr (.sl (.int .i64)) (.pr (.sl (.ar 4 (.int .u64))) (.ar 4 (.int .u64)))) y])) (ob := (True ∧ True)) (ret24v.2.1, ((ret24v.2.2.set (((0 : Int)).toNat) [(ret24v.1.1.getD 0 0), (ret24v.1.1.getD 1 0), (ret24v.1.1.getD 2 0), (ret24v.1.1.getD 3 0), (ret24v.1.1.getD 4 0)]), [b, b2, b3, b4, b5])) (by kernel_rfl) ⟨trivial, trivial⟩ h
  · refine aw_cond (b := ret24v.1.2.2) (by kernel_rfl) (fun hb => ?_) (fun hb => ?_)
    · have h := h.1 hb
      refine aw_region ?_
      refine awl_runp 6 [2, 5, 41, 46] [2, 40000, 40001, 40002] (ob := (True ∧ True ∧ True ∧ True ∧ True ∧ True ∧ True)) (st' := (⟨55, [(2, [], .v (.c (.ptr 2 0))), (5, [], .v (.c (.ptr 40000 0))), (41, [], .v (.c (.ptr 40000 0))), (46, [], .v (.agg [.pU (ret24v.1.2.1.getD 0 0), .pU (ret24v.1.2.1.getD 1 0), .pU (ret24v.1.2.1.getD 2 0), .pU (ret24v.1.2.1.getD 3 0), .pU (ret24v.1.2.1.getD 4 0)]))], [(2, [], .box [.nils, .nils, .pU (0 : Int), .pU (0 : Int), .pU (0 : Int), .pU (0 : Int), .pU (0 : Int)]), (40000, [], .box [.p (.sl t3) l, .p (.sl .bool) ret9v.1, .own 40001, .own 40002, .pU (ret24v.1.2.1.getD 0 0), .pU (ret24v.1.2.1.getD 1 0), .pU (ret24v.1.2.1.getD 2 0), .pU (ret24v.1.2.1.getD 3 0), .pU (ret24v.1.2.1.getD 4 0)]), (40001, [], .arr 3 (.int .i64) ret24v.2.1), (40002, [], .arr 114 (.ar 4 (.int .u64)) (ret24v.2.2.set (((0 : Int)).toNat) [(ret24v.1.1.getD 0 0), (ret24v.1.1.getD 1 0), (ret24v.1.1.getD 2 0), (ret24v.1.1.getD 3 0), (ret24v.1.1.getD 4 0)]))]⟩ : St)) (by kernel_rfl) ⟨trivial, trivial, trivial, trivial, trivial, trivial, trivial⟩ ?_
      refine awl_callk (p := []) (l := [toV1 (.ar 4 (.int .u64)) [(ret24v.1.2.1.getD 0 0), (ret24v.1.2.1.getD 1 0), (ret24v.1.2.1.getD 2 0), (ret24v.1.2.1.getD 3 0), (ret24v.1.2.1.getD 4 0)], toV1 (.int .i64) (0 : Int)]) (cl := []) false [.d (.ar 4 (.int .u64)), .d (.int .i64)] [2, 5, 41, 47] [2, 40000, 40001, 40002] (fun (ret47v : LI) => VC60_k1 K ret24v (ret47v.getD 0 0) (ret47v.getD 1 0) (ret47v.getD 2 0) (ret47v.getD 3 0) (ret47v.getD 4 0)) (fun ret47v => [toV1 (.ar 4 (.int .u64)) ret47v]) (fun ret47v => (⟨55, [(2, [], .v (.c (.ptr 2 0))), (5, [], .v (.c (.ptr 40000 0))), (41, [], .v (.c (.ptr 40000 0))), (47, [], .v (.agg [.pU (ret47v.getD 0 0), .pU (ret47v.getD 1 0), .pU (ret47v.getD 2 0), .pU (ret47v.getD 3 0), .pU (ret47v.getD 4 0)]))], [(2, [], .box [.nils, .nils, .pU (0 : Int), .pU (0 : Int), .pU (0 : Int), .pU (0 : Int), .pU (0 : Int)]), (40000, [], .box [.p (.sl t3) l, .p (.sl .bool) ret9v.1, .own 40001, .own 40002, .pU (ret24v.1.2.1.getD 0 0), .pU (ret24v.1.2.1.getD 1 0), .pU (ret24v.1.2.1.getD 2 0), .pU (ret24v.1.2.1.getD 3 0), .pU (ret24v.1.2.1.getD 4 0)]), (40001, [], .arr 3 (.int .i64) ret24v.2.1), (40002, [], .arr 114 (.ar 4 (.int .u64)) (ret24v.2.2.set (((0 : Int)).toNat) [(ret24v.1.1.getD 0 0), (ret24v.1.1.getD 1 0), (ret24v.1.1.getD 2 0), (ret24v.1.1.getD 3 0), (ret24v.1.1.getD 4 0)]))]⟩ : St)) (by kernel_rfl) rfl (by kernel_rfl) rfl (by kernel_rfl) Try.call88 (by kernel_rfl) (fun ret47v => by kernel_rfl) (fun e => by cases e) (fun hg => link88 [(ret24v.1.2.1.getD 0 0), (ret24v.1.2.1.getD 1 0), (ret24v.1.2.1.getD 2 0), (ret24v.1.2.1.getD 3 0), (ret24v.1.2.1.getD 4 0)] (0 : Int) _ h) (fun hg => noF hg) (fun ret47v h => ?_)
      have h : VC60_k1 K ret24v (ret47v.getD 0 0) (ret47v.getD 1 0) (ret47v.getD 2 0) (ret47v.getD 3 0) (ret47v.getD 4 0) := h
      refine awl_runp 4 [2, 5] [2, 40000, 40001, 40002] (ob := (True ∧ True ∧ True ∧ True ∧ True)) (st' := (⟨55, [(2, [], .v (.c (.ptr 2 0))), (5, [], .v (.c (.ptr 40000 0)))], [(2, [], .box [.nils, .nils, .pU (0 : Int), .pU (0 : Int), .pU (0 : Int), .pU (0 : Int), .pU (0 : Int)]), (40000, [], .box [.p (.sl t3) l, .p (.sl .bool) ret9v.1, .own 40001, .own 40002, .pU (ret47v.getD 0 0), .pU (ret47v.getD 1 0), .pU (ret47v.getD 2 0), .pU (ret47v.getD 3 0), .pU (ret47v.getD 4 0)]), (40001, [], .arr 3 (.int .i64) ret24v.2.1), (40002, [], .arr 114 (.ar 4 (.int .u64)) (ret24v.2.2.set (((0 : Int)).toNat) [(ret24v.1.1.getD 0 0), (ret24v.1.1.getD 1 0), (ret24v.1.1.getD 2 0), (ret24v.1.1.getD 3 0), (ret24v.1.1.getD 4 0)]))]⟩ : St)) (by kernel_rfl) ⟨trivial, trivial, trivial, trivial, trivial⟩ ?_
      refine awl_nil ?_
      exact rest1 ((ret47v.getD 0 0), (ret47v.getD 1 0), (ret47v.getD 2 0), (ret47v.getD 3 0), (ret47v.getD 4 0)) h
    · have h := h.2 hb
      refine aw_conv [.prune [2, 5] [2, 40000, 40001, 40002]] (st' := (⟨55, [(2, [], .v (.c (.ptr 2 0))), (5, [], .v (.c (.ptr 40000 0)))], [(2, [], .box [.nils, .nils, .pU (0 : Int), .pU (0 : Int), .pU (0 : Int), .pU (0 : Int), .pU (0 : Int)]), (40000, [], .box [.p (.sl t3) l, .p (.sl .bool) ret9v.1, .own 40001, .own 40002, .pU (ret24v.1.2.1.getD 0 0), .pU (ret24v.1.2.1.getD 1 0), .pU (ret24v.1.2.1.getD 2 0), .pU (ret24v.1.2.1.getD 3 0), .pU (ret24v.1.2.1.getD 4 0)]), (40001, [], .arr 3 (.int .i64) ret24v.2.1), (40002, [], .arr 114 (.ar 4 (.int .u64)) (ret24v.2.2.set (((0 : Int)).toNat) [(ret24v.1.1.getD 0 0), (ret24v.1.1.getD 1 0), (ret24v.1.1.getD 2 0), (ret24v.1.1.getD 3 0), (ret24v.1.1.getD 4 0)]))]⟩ : St)) (by kernel_rfl) ?_
      refine aw_skip ?_
      exact rest1 ((ret24v.1.2.1.getD 0 0), (ret24v.1.2.1.getD 1 0), (ret24v.1.2.1.getD 2 0), (ret24v.1.2.1.getD 3 0), (ret24v.1.2.1.getD 4 0)) h

-- coppicer/spot.Net
def VC31_k1 (k : Int) (K : (Int × (Int × (LN × (Int × Int)))) × Int → Prop) (ret20v : (LI × (LL × LI))) (out : Int) (l6162 : LN) : Prop :=
  K (((ret20v.1.length : Int), (k, (l6162, ((1 : Int), out)))), (0 : Int))

def VC31_k3 (v34 : Int) (X1 : Int × Int × LN → Prop) (l61622 : LN) (out2 : Int) : Prop :=
  (InR (v34 + (1 : Int)) ∧ X1 ((v34 + (1 : Int)), out2, l61622))

def VC31_k2 (ret20v : (LI × (LL × LI))) (v34 : Int) (out : Int) (X1 : Int × Int × LN → Prop) (l61622 : LN) : Prop :=
  VC61 [(ret20v.2.2.getD 0 0), (ret20v.2.2.getD 1 0), (ret20v.2.2.getD 2 0), (ret20v.2.2.getD 3 0), (ret20v.2.2.getD 4 0)] v34 (fun (ret65v : Bool) => ((ret65v = true → (0 ≤ v34 ∧ VC31_k3 v34 X1 l61622 (bOr .u32 out (bShl .u32 (1 : Int) v34)))) ∧ (ret65v = false → VC31_k3 v34 X1 l61622 out)))

def VC31_k4 (v40 : Int) (X2 : Int × LN → Prop) (l59 : LN) : Prop :=
  (InR (v40 + (1 : Int)) ∧ X2 ((v40 + (1 : Int)), l59))

def VC31_l2 (ret20v : (LI × (LL × LI))) (v34 : Int) (out : Int) (X1 : Int × Int × LN → Prop) (v40 : Int) (l61622 : LN) (X2 : Int × LN → Prop) : Prop :=
  (((decide (v40 < (ret20v.1.length : Int))) = true → (inIdx v40 ret20v.1.length ∧ (inIdx v34 ret20v.2.1.length ∧ VC61 [((ret20v.2.1.getD (v34).toNat (List.replicate 5 (0 : Int))).getD 0 0), ((ret20v.2.1.getD (v34).toNat (List.replicate 5 (0 : Int))).getD 1 0), ((ret20v.2.1.getD (v34).toNat (List.replicate 5 (0 : Int))).getD 2 0), ((ret20v.2.1.getD (v34).toNat (List.replicate 5 (0 : Int))).getD 3 0), ((ret20v.2.1.getD (v34).toNat (List.replicate 5 (0 : Int))).getD 4 0)] v40 (fun (ret51v : Bool) => ((ret51v = true → (roomN (l61622.length + [(v34, ((ret20v.1.getD (v40).toNat (0 : Int)), v40))].length) ∧ VC31_k4 v40 X2 (l61622 ++ [(v34, ((ret20v.1.getD (v40).toNat (0 : Int)), v40))]))) ∧ (ret51v = false → VC31_k4 v40 X2 l61622)))))) ∧ ((decide (v40 < (ret20v.1.length : Int))) = false → VC31_k2 ret20v v34 out X1 l61622))

def VC31_l1 (k : Int) (K : (Int × (Int × (LN × (Int × Int)))) × Int → Prop) (ret20v : (LI × (LL × LI))) (v34 : Int) (out : Int) (l6162 : LN) (X1 : Int × Int × LN → Prop) : Prop :=
  (((decide (v34 < (ret20v.1.length : Int))) = true → Loop (σ := Int × LN) (fun s X => VC31_l2 ret20v v34 out X1 s.1 s.2 X) ((0 : Int), l6162)) ∧ ((decide (v34 < (ret20v.1.length : Int))) = false → VC31_k1 k K ret20v out l6162))

def VC31 (k : Int) (l : LN) (K : (Int × (Int × (LN × (Int × Int)))) × Int → Prop) : Prop :=
  VC45 k l (fun (ret14v : Int) => (((!decide (ret14v = (0 : Int))) = true → K (((0 : Int), ((0 : Int), (([] : LN), ((0 : Int), (0 : Int))))), ret14v)) ∧ ((!decide (ret14v = (0 : Int))) = false → VC60 l (fun (ret20v : (LI × (LL × LI))) => (((decide ((7 : Int) < (ret20v.1.length : Int))) = true → K (((0 : Int), ((0 : Int), (([] : LN), ((0 : Int), (0 : Int))))), (1 : Int))) ∧ ((decide ((7 : Int) < (ret20v.1.length : Int))) = false → Loop (σ := Int × Int × LN) (fun s X => VC31_l1 k K ret20v s.1 s.2.1 s.2.2 X) ((0 : Int), (0 : Int), ([] : List (Int × (Int × Int))))))))))

set_option maxHeartbeats 4000000 in
theorem link31 (k : Int) (l : LN) (K : (Int × (Int × (LN × (Int × Int)))) × Int → Prop) (h : VC31 k l K) : ACalls Try.prog 31 [toV1 (.int .i64) k, toV1 (.sl t3) l] (fun res => ∃ y, res = (fun y => [toV1 (.pr (.int .i64) (.pr (.int .i64) (.pr (.sl t3) (.pr (.int .u32) (.int .u32))))) y.1, toV1 (.int .i64) y.2]) y ∧ K y) := by
  refine acalls_of_aw [(.pr (.int .i64) (.pr (.int .i64) (.pr (.sl t3) (.pr (.int .u32) (.int .u32))))), (.int .i64)] [.c 4 62, .t 5] Try.func31 rfl rfl rfl ?_
  unfold VC31 at h
  refine aw_seq ?_
  refine aw_region ?_
  refine awl_runp 2 [0, 1, 4] [4] (ob := (True ∧ True ∧ True)) (st' := (⟨74, [(0, [], .v (.c (.pI k))), (1, [], .v (.c (.p (.sl t3) l))), (4, [], .v (.c (.ptr 4 0)))], [(4, [], .box [.pI (0 : Int), .pI (0 : Int), .nils, .p (.int .u32) (0 : Int), .p (.int .u32) (0 : Int)])]⟩ : St)) (by kernel_rfl) ⟨trivial, trivial, trivial⟩ ?_
  refine awl_nil ?_
  refine thenQ_n ?_
  refine aw_seq ?_
  refine aw_seq ?_
  refine aw_region ?_
  refine awl_runp 2 [0, 1, 4, 12, 13] [4] (ob := (True ∧ True ∧ True)) (st' := (⟨74, [(0, [], .v (.c (.pI k))), (1, [], .v (.c (.p (.sl t3) l))), (4, [], .v (.c (.ptr 4 0))), (12, [], .v (.c (.pI k))), (13, [], .v (.c (.p (.sl t3) l)))], [(4, [], .box [.pI (0 : Int), .pI (0 : Int), .nils, .p (.int .u32) (0 : Int), .p (.int .u32) (0 : Int)])]⟩ : St)) (by kernel_rfl) ⟨trivial, trivial, trivial⟩ ?_
  refine awl_callk (p := []) (l := [toV1 (.int .i64) k, toV1 (.sl t3) l]) (cl := []) false [.d (.int .i64), .d (.sl t3)] [0, 1, 4, 14] [4] (fun (ret14v : Int) => (((!decide (ret14v = (0 : Int))) = true → K (((0 : Int), ((0 : Int), (([] : LN), ((0 : Int), (0 : Int))))), ret14v)) ∧ ((!decide (ret14v = (0 : Int))) = false → VC60 l (fun (ret20v : (LI × (LL × LI))) => (((decide ((7 : Int) < (ret20v.1.length : Int))) = true → K (((0 : Int), ((0 : Int), (([] : LN), ((0 : Int), (0 : Int))))), (1 : Int))) ∧ ((decide ((7 : Int) < (ret20v.1.length : Int))) = false → Loop (σ := Int × Int × LN) (fun s X => VC31_l1 k K ret20v s.1 s.2.1 s.2.2 X) ((0 : Int), (0 : Int), ([] : List (Int × (Int × Int)))))))))) (fun ret14v => [toV1 (.int .i64) ret14v]) (fun ret14v => (⟨74, [(0, [], .v (.c (.pI k))), (1, [], .v (.c (.p (.sl t3) l))), (4, [], .v (.c (.ptr 4 0))), (14, [], .v (.c (.pI ret14v)))], [(4, [], .box [.pI (0 : Int), .pI (0 : Int), .nils, .p (.int .u32) (0 : Int), .p (.int .u32) (0 : Int)])]⟩ : St)) (by kernel_rfl) rfl (by kernel_rfl) rfl (by kernel_rfl) Try.call45 (by kernel_rfl) (fun ret14v => by kernel_rfl) (fun e => by cases e) (fun hg => link45 k l _ h) (fun hg => noF hg) (fun ret14v h => ?_)
  have h : (((!decide (ret14v = (0 : Int))) = true → K (((0 : Int), ((0 : Int), (([] : LN), ((0 : Int), (0 : Int))))), ret14v)) ∧ ((!decide (ret14v = (0 : Int))) = false → VC60 l (fun (ret20v : (LI × (LL × LI))) => (((decide ((7 : Int) < (ret20v.1.length : Int))) = true → K (((0 : Int), ((0 : Int), (([] : LN), ((0 : Int), (0 : Int))))), (1 : Int))) ∧ ((decide ((7 : Int) < (ret20v.1.length : Int))) = false → Loop (σ := Int × Int × LN) (fun s X => VC31_l1 k K ret20v s.1 s.2.1 s.2.2 X) ((0 : Int), (0 : Int), ([] : List (Int × (Int × Int))))))))) := h
  refine awl_runp 1 [0, 1, 4, 6] [4] (ob := (True ∧ True)) (st' := (⟨74, [(0, [], .v (.c (.pI k))), (1, [], .v (.c (.p (.sl t3) l))), (4, [], .v (.c (.ptr 4 0))), (6, [], .v (.c (.pI ret14v)))], [(4, [], .box [.pI (0 : Int), .pI (0 : Int), .nils, .p (.int .u32) (0 : Int), .p (.int .u32) (0 : Int)])]⟩ : St)) (by kernel_rfl) ⟨trivial, trivial⟩ ?_
  refine awl_nil ?_
  refine thenQ_n ?_
  refine aw_seq ?_
  refine aw_region ?_
  refine awl_runp 2 [0, 1, 4, 6, 16] [4] (ob := (True ∧ True ∧ True)) (st' := (⟨74, [(0, [], .v (.c (.pI k))), (1, [], .v (.c (.p (.sl t3) l))), (4, [], .v (.c (.ptr 4 0))), (6, [], .v (.c (.pI ret14v))), (16, [], .v (.c (.pB (!decide (ret14v = (0 : Int))))))], [(4, [], .box [.pI (0 : Int), .pI (0 : Int), .nils, .p (.int .u32) (0 : Int), .p (.int .u32) (0 : Int)])]⟩ : St)) (by kernel_rfl) ⟨trivial, trivial, trivial⟩ ?_
  refine awl_nil ?_
  refine thenQ_n ?_
  refine aw_cond (b := (!decide (ret14v = (0 : Int)))) (by kernel_rfl) (fun hb => ?_) (fun hb => ?_)
  · have h := h.1 hb
    refine aw_seq ?_
    refine aw_region ?_
    refine awl_runp 4 [4, 5] [4] (ob := (True ∧ True ∧ True ∧ True ∧ True)) (st' := (⟨74, [(4, [], .v (.c (.ptr 4 0))), (5, [], .v (.c (.pI ret14v)))], [(4, [], .box [.pI (0 : Int), .pI (0 : Int), .nils, .p (.int .u32) (0 : Int), .p (.int .u32) (0 : Int)])]⟩ : St)) (by kernel_rfl) ⟨trivial, trivial, trivial, trivial, trivial⟩ ?_
    refine awl_nil ?_
    refine thenQ_n ?_
    refine aw_ret ?_
    refine thenQ_r ?_
    exact retQ_r (σ := (Int × (Int × (LN × (Int × Int)))) × Int) (R := (fun y => [toV1 (.pr (.int .i64) (.pr (.int .i64) (.pr (.sl t3) (.pr (.int .u32) (.int .u32))))) y.1, toV1 (.int .i64) y.2])) (ob := (True ∧ True ∧ True)) (((0 : Int), ((0 : Int), (([] : LN), ((0 : Int), (0 : Int))))), ret14v) (by kernel_rfl) ⟨trivial, trivial, trivial⟩ h
  · have h := h.2 hb
    refine aw_skip ?_
    refine thenQ_n ?_
    refine aw_seq ?_
    refine aw_region ?_
    refine awl_runp 1 [0, 4, 19] [4] (ob := (True ∧ True)) (st' := (⟨74, [(0, [], .v (.c (.pI k))), (4, [], .v (.c (.ptr 4 0))), (19, [], .v (.c (.p (.sl t3) l)))], [(4, [], .box [.pI (0 : Int), .pI (0 : Int), .nils, .p (.int .u32) (0 : Int), .p (.int .u32) (0 : Int)])]⟩ : St)) (by kernel_rfl) ⟨trivial, trivial⟩ ?_
    refine awl_callk (p := []) (l := [toV1 (.sl t3) l]) (cl := []) false [.d (.sl t3)] [0, 4, 20] [4] (fun (ret20v : (LI × (LL × LI))) => (((decide ((7 : Int) < (ret20v.1.length : Int))) = true → K (((0 : Int), ((0 : Int), (([] : LN), ((0 : Int), (0 : Int))))), (1 : Int))) ∧ ((decide ((7 : Int) < (ret20v.1.length : Int))) = false → Loop (σ := Int × Int × LN) (fun s X => VC31_l1 k K ret20v s.1 s.2.1 s.2.2 X) ((0 : Int), (0 : Int), ([] : List (Int × (Int × Int))))))) (fun ret20v => [toV1 (.pr (.sl (.int .i64)) (.pr (.sl (.ar 4 (.int .u64))) (.ar 4 (.int .u64)))) ret20v]) (fun ret20v => (⟨74, [(0, [], .v (.c (.pI k))), (4, [], .v (.c (.ptr 4 0))), (20, [], .v (.agg [.pS ret20v.1, .p (.sl (.ar 4 (.int .u64))) ret20v.2.1, .pU (ret20v.2.2.getD 0 0), .pU (ret20v.2.2.getD 1 0), .pU (ret20v.2.2.getD 2 0), .pU (ret20v.2.2.getD 3 0), .pU (ret20v.2.2.getD 4 0)]))], [(4, [], .box [.pI (0 : Int), .pI (0 : Int), .nils, .p (.int .u32) (0 : Int), .p (.int .u32) (0 : Int)])]⟩ : St)) (by kernel_rfl) rfl (by kernel_rfl) rfl (by kernel_rfl) Try.call60 (by kernel_rfl) (fun ret20v => by kernel_rfl) (fun e => by cases e) (fun hg => link60 l _ h) (fun hg => noF hg) (fun ret20v h => ?_)
    have h : (((decide ((7 : Int) < (ret20v.1.length : Int))) = true → K (((0 : Int), ((0 : Int), (([] : LN), ((0 : Int), (0 : Int))))), (1 : Int))) ∧ ((decide ((7 : Int) < (ret20v.1.length : Int))) = false → Loop (σ := Int × Int × LN) (fun s X => VC31_l1 k K ret20v s.1 s.2.1 s.2.2 X) ((0 : Int), (0 : Int), ([] : List (Int × (Int × Int)))))) := h
    refine awl_runp 2 [0, 4, 7] [4, 7] (ob := (True ∧ True ∧ True)) (st' := (⟨74, [(0, [], .v (.c (.pI k))), (4, [], .v (.c (.ptr 4 0))), (7, [], .v (.c (.ptr 7 0)))], [(4, [], .box [.pI (0 : Int), .pI (0 : Int), .nils, .p (.int .u32) (0 : Int), .p (.int .u32) (0 : Int)]), (7, [], .box [.pS ret20v.1, .p (.sl (.ar 4 (.int .u64))) ret20v.2.1, .pU (ret20v.2.2.getD 0 0), .pU (ret20v.2.2.getD 1 0), .pU (ret20v.2.2.getD 2 0), .pU (ret20v.2.2.getD 3 0), .pU (ret20v.2.2.getD 4 0)])]⟩ : St)) (by kernel_rfl) ⟨trivial, trivial, trivial⟩ ?_
    refine awl_nil ?_
    refine thenQ_n ?_
    refine aw_seq ?_
    refine aw_seq ?_
    refine aw_region ?_
    refine awl_runp 4 [0, 4, 7, 24] [4, 7] (ob := (True ∧ True ∧ True ∧ True ∧ True)) (st' := (⟨74, [(0, [], .v (.c (.pI k))), (4, [], .v (.c (.ptr 4 0))), (7, [], .v (.c (.ptr 7 0))), (24, [], .v (.c (.pB (decide ((7 : Int) < (ret20v.1.length : Int))))))], [(4, [], .box [.pI (0 : Int), .pI (0 : Int), .nils, .p (.int .u32) (0 : Int), .p (.int .u32) (0 : Int)]), (7, [], .box [.pS ret20v.1, .p (.sl (.ar 4 (.int .u64))) ret20v.2.1, .pU (ret20v.2.2.getD 0 0), .pU (ret20v.2.2.getD 1 0), .pU (ret20v.2.2.getD 2 0), .pU (ret20v.2.2.getD 3 0), .pU (ret20v.2.2.getD 4 0)])]⟩ : St)) (by kernel_rfl) ⟨trivial, trivial, trivial, trivial, trivial⟩ ?_
    refine awl_nil ?_
    refine thenQ_n ?_
    refine aw_cond (b := (decide ((7 : Int) < (ret20v.1.length : Int)))) (by kernel_rfl) (fun hb => ?_) (fun hb => ?_)
    · have h := h.1 hb
      refine aw_seq ?_
      refine aw_region ?_
      refine awl_runp 3 [4, 5] [4] (ob := (True ∧ True ∧ True ∧ True)) (st' := (⟨74, [(4, [], .v (.c (.ptr 4 0))), (5, [], .v (.c (.pI (1 : Int))))], [(4, [], .box [.pI (0 : Int), .pI (0 : Int), .nils, .p (.int .u32) (0 : Int), .p (.int .u32) (0 : Int)])]⟩ : St)) (by kernel_rfl) ⟨trivial, trivial, trivial, trivial⟩ ?_
      refine awl_nil ?_
      refine thenQ_n ?_
      refine aw_ret ?_
      refine thenQ_r ?_
      exact retQ_r (σ := (Int × (Int × (LN × (Int × Int)))) × Int) (R := (fun y => [toV1 (.pr (.int .i64) (.pr (.int .i64) (.pr (.sl t3) (.pr (.int .u32) (.int .u32))))) y.1, toV1 (.int .i64) y.2])) (ob := (True ∧ True ∧ True)) (((0 : Int), ((0 : Int), (([] : LN), ((0 : Int), (0 : Int))))), (1 : Int)) (by kernel_rfl) ⟨trivial, trivial, trivial⟩ h
    · have h := h.2 hb
      refine aw_skip ?_
      refine thenQ_n ?_
      refine aw_seq ?_
      refine aw_region ?_
      refine awl_runp 7 [4, 7, 8] [4, 7, 8] (ob := (True ∧ True ∧ True ∧ True ∧ True ∧ True ∧ True ∧ True)) (st' := (⟨74, [(4, [], .v (.c (.ptr 4 0))), (7, [], .v (.c (.ptr 7 0))), (8, [], .v (.c (.ptr 8 0)))], [(4, [], .box [.pI (0 : Int), .pI (0 : Int), .nils, .p (.int .u32) (0 : Int), .p (.int .u32) (0 : Int)]), (7, [], .box [.pS ret20v.1, .p (.sl (.ar 4 (.int .u64))) ret20v.2.1, .pU (ret20v.2.2.getD 0 0), .pU (ret20v.2.2.getD 1 0), .pU (ret20v.2.2.getD 2 0), .pU (ret20v.2.2.getD 3 0), .pU (ret20v.2.2.getD 4 0)]), (8, [], .box [.pI (ret20v.1.length : Int), .pI k, .nils, .p (.int .u32) (1 : Int), .p (.int .u32) (0 : Int)])]⟩ : St)) (by kernel_rfl) ⟨trivial, trivial, trivial, trivial, trivial, trivial, trivial, trivial⟩ ?_
      refine awl_nil ?_
      refine thenQ_n ?_
      refine aw_seq ?_
      refine aw_seq ?_
      refine aw_region ?_
      refine awl_runp 4 [4, 7, 8, 33, 34] [4, 7, 8] (ob := (True ∧ True ∧ True ∧ True ∧ True)) (st' := (⟨74, [(4, [], .v (.c (.ptr 4 0))), (7, [], .v (.c (.ptr 7 0))), (8, [], .v (.c (.ptr 8 0))), (33, [], .v (.c (.pI (ret20v.1.length : Int)))), (34, [], .v (.c (.pI (0 : Int))))], [(4, [], .box [.pI (0 : Int), .pI (0 : Int), .nils, .p (.int .u32) (0 : Int), .p (.int .u32) (0 : Int)]), (7, [], .box [.pS ret20v.1, .p (.sl (.ar 4 (.int .u64))) ret20v.2.1, .pU (ret20v.2.2.getD 0 0), .pU (ret20v.2.2.getD 1 0), .pU (ret20v.2.2.getD 2 0), .pU (ret20v.2.2.getD 3 0), .pU (ret20v.2.2.getD 4 0)]), (8, [], .box [.pI (ret20v.1.length : Int), .pI k, .nils, .p (.int .u32) (1 : Int), .p (.int .u32) (0 : Int)])]⟩ : St)) (by kernel_rfl) ⟨trivial, trivial, trivial, trivial, trivial⟩ ?_
      refine awl_nil ?_
      refine thenQ_n ?_
      refine withJoin (σ := Int × LN) (fun s => (⟨74, [(4, [], .v (.c (.ptr 4 0))), (8, [], .v (.c (.ptr 8 0)))], [(4, [], .box [.pI (0 : Int), .pI (0 : Int), .nils, .p (.int .u32) (0 : Int), .p (.int .u32) (0 : Int)]), (8, [], .box [.pI (ret20v.1.length : Int), .pI k, .own 6162, .p (.int .u32) (1 : Int), .p (.int .u32) s.1]), (6162, [], .arr 66 t3 s.2)]⟩ : St)) (fun s => VC31_k1 k K ret20v s.1 s.2) (fun s h => ?_) (fun rest1 => ?_)
      · obtain ⟨out, l6162⟩ := s
        have h : VC31_k1 k K ret20v out l6162 := h
        unfold VC31_k1 at h
        refine thenQ_n ?_
        refine aw_seq ?_
        refine aw_region ?_
        refine awl_runp 3 [4, 5] [4, 6162] (ob := (True ∧ True ∧ True ∧ True)) (st' := (⟨74, [(4, [], .v (.c (.ptr 4 0))), (5, [], .v (.c (.pI (0 : Int))))], [(4, [], .box [.pI (ret20v.1.length : Int), .pI k, .own 6162, .p (.int .u32) (1 : Int), .p (.int .u32) out]), (6162, [], .arr 66 t3 l6162)]⟩ : St)) (by kernel_rfl) ⟨trivial, trivial, trivial, trivial⟩ ?_
        refine awl_nil ?_
        refine thenQ_n ?_
        refine aw_conv [.freeze 6162] (st' := (⟨74, [(4, [], .v (.c (.ptr 4 0))), (5, [], .v (.c (.pI (0 : Int))))], [(4, [], .box [.pI (ret20v.1.length : Int), .pI k, .p (.sl t3) l6162, .p (.int .u32) (1 : Int), .p (.int .u32) out])]⟩ : St)) (by kernel_rfl) ?_
        refine aw_ret ?_
        exact retQ_r (σ := (Int × (Int × (LN × (Int × Int)))) × Int) (R := (fun y => [toV1 (.pr (.int .i64) (.pr (.int .i64) (.pr (.sl t3) (.pr (.int .u32) (.int .u32))))) y.1, toV1 (.int .i64) y.2])) (ob := (True ∧ True ∧ True)) (((ret20v.1.length : Int), (k, (l6162, ((1 : Int), out)))), (0 : Int)) (by kernel_rfl) ⟨trivial, trivial, trivial⟩ h
      · refine aw_block ?_
        refine aw_conv [.nilOwnB 8 2 6162 66 t3, .prune [4, 7, 8, 33, 34] [4, 7, 8, 6162]] (st' := (⟨74, [(4, [], .v (.c (.ptr 4 0))), (7, [], .v (.c (.ptr 7 0))), (8, [], .v (.c (.ptr 8 0))), (33, [], .v (.c (.pI (ret20v.1.length : Int)))), (34, [], .v (.c (.pI (0 : Int))))], [(4, [], .box [.pI (0 : Int), .pI (0 : Int), .nils, .p (.int .u32) (0 : Int), .p (.int .u32) (0 : Int)]), (7, [], .box [.pS ret20v.1, .p (.sl (.ar 4 (.int .u64))) ret20v.2.1, .pU (ret20v.2.2.getD 0 0), .pU (ret20v.2.2.getD 1 0), .pU (ret20v.2.2.getD 2 0), .pU (ret20v.2.2.getD 3 0), .pU (ret20v.2.2.getD 4 0)]), (8, [], .box [.pI (ret20v.1.length : Int), .pI k, .own 6162, .p (.int .u32) (1 : Int), .p (.int .u32) (0 : Int)]), (6162, [], .arr 66 t3 ([] : List (Int × (Int × Int))))]⟩ : St)) (by kernel_rfl) ?_
        refine aw_loop (σ := Int × Int × LN) (fun s => (⟨74, [(4, [], .v (.c (.ptr 4 0))), (7, [], .v (.c (.ptr 7 0))), (8, [], .v (.c (.ptr 8 0))), (33, [], .v (.c (.pI (ret20v.1.length : Int)))), (34, [], .v (.c (.pI s.1)))], [(4, [], .box [.pI (0 : Int), .pI (0 : Int), .nils, .p (.int .u32) (0 : Int), .p (.int .u32) (0 : Int)]), (7, [], .box [.pS ret20v.1, .p (.sl (.ar 4 (.int .u64))) ret20v.2.1, .pU (ret20v.2.2.getD 0 0), .pU (ret20v.2.2.getD 1 0), .pU (ret20v.2.2.getD 2 0), .pU (ret20v.2.2.getD 3 0), .pU (ret20v.2.2.getD 4 0)]), (8, [], .box [.pI (ret20v.1.length : Int), .pI k, .own 6162, .p (.int .u32) (1 : Int), .p (.int .u32) s.2.1]), (6162, [], .arr 66 t3 s.2.2)]⟩ : St)) (fun s X => VC31_l1 k K ret20v s.1 s.2.1 s.2.2 X) (s0 := ((0 : Int), (0 : Int), ([] : List (Int × (Int × Int))))) (fun s X1 h => ?_) h
        obtain ⟨v34, out, l6162⟩ := s
        have h : VC31_l1 k K ret20v v34 out l6162 X1 := h
        unfold VC31_l1 at h
        refine aw_seq ?_
        refine aw_region ?_
        refine awl_runp 1 [4, 7, 8, 33, 34, 35] [4, 7, 8, 6162] (ob := (True ∧ True)) (st' := (⟨74, [(4, [], .v (.c (.ptr 4 0))), (7, [], .v (.c (.ptr 7 0))), (8, [], .v (.c (.ptr 8 0))), (33, [], .v (.c (.pI (ret20v.1.length : Int)))), (34, [], .v (.c (.pI v34))), (35, [], .v (.c (.pB (decide (v34 < (ret20v.1.length : Int))))))], [(4, [], .box [.pI (0 : Int), .pI (0 : Int), .nils, .p (.int .u32) (0 : Int), .p (.int .u32) (0 : Int)]), (7, [], .box [.pS ret20v.1, .p (.sl (.ar 4 (.int .u64))) ret20v.2.1, .pU (ret20v.2.2.getD 0 0), .pU (ret20v.2.2.getD 1 0), .pU (ret20v.2.2.getD 2 0), .pU (ret20v.2.2.getD 3 0), .pU (ret20v.2.2.getD 4 0)]), (8, [], .box [.pI (ret20v.1.length : Int), .pI k, .own 6162, .p (.int .u32) (1 : Int), .p (.int .u32) out]), (6162, [], .arr 66 t3 l6162)]⟩ : St)) (by kernel_rfl) ⟨trivial, trivial⟩ ?_
        refine awl_nil ?_
        refine thenQ_n ?_
        refine aw_seq ?_
        refine aw_cond (b := (decide (v34 < (ret20v.1.length : Int)))) (by kernel_rfl) (fun hb => ?_) (fun hb => ?_)
        · have h := h.1 hb
          refine aw_skip ?_
          refine thenQ_n ?_
          refine aw_seq ?_
          refine aw_block ?_
          refine aw_seq ?_
          refine aw_region ?_
          refine awl_runp 2 [4, 7, 8, 9, 33, 34] [4, 7, 8, 6162] (ob := (True ∧ True ∧ True)) (st' := (⟨74, [(4, [], .v (.c (.ptr 4 0))), (7, [], .v (.c (.ptr 7 0))), (8, [], .v (.c (.ptr 8 0))), (9, [], .v (.c (.pI v34))), (33, [], .v (.c (.pI (ret20v.1.length : Int)))), (34, [], .v (.c (.pI v34)))], [(4, [], .box [.pI (0 : Int), .pI (0 : Int), .nils, .p (.int .u32) (0 : Int), .p (.int .u32) (0 : Int)]), (7, [], .box [.pS ret20v.1, .p (.sl (.ar 4 (.int .u64))) ret20v.2.1, .pU (ret20v.2.2.getD 0 0), .pU (ret20v.2.2.getD 1 0), .pU (ret20v.2.2.getD 2 0), .pU (ret20v.2.2.getD 3 0), .pU (ret20v.2.2.getD 4 0)]), (8, [], .box [.pI (ret20v.1.length : Int), .pI k, .own 6162, .p (.int .u32) (1 : Int), .p (.int .u32) out]), (6162, [], .arr 66 t3 l6162)]⟩ : St)) (by kernel_rfl) ⟨trivial, trivial, trivial⟩ ?_
          refine awl_nil ?_
          refine thenQ_n ?_
          refine aw_seq ?_
          refine aw_seq ?_
          refine aw_region ?_
          refine awl_runp 4 [4, 7, 8, 9, 33, 34, 38, 39, 40] [4, 7, 8, 6162] (ob := (True ∧ True ∧ True ∧ True ∧ True)) (st' := (⟨74, [(4, [], .v (.c (.ptr 4 0))), (7, [], .v (.c (.ptr 7 0))), (8, [], .v (.c (.ptr 8 0))), (9, [], .v (.c (.pI v34))), (33, [], .v (.c (.pI (ret20v.1.length : Int)))), (34, [], .v (.c (.pI v34))), (38, [], .v (.c (.pS ret20v.1))), (39, [], .v (.c (.pI (ret20v.1.length : Int)))), (40, [], .v (.c (.pI (0 : Int))))], [(4, [], .box [.pI (0 : Int), .pI (0 : Int), .nils, .p (.int .u32) (0 : Int), .p (.int .u32) (0 : Int)]), (7, [], .box [.pS ret20v.1, .p (.sl (.ar 4 (.int .u64))) ret20v.2.1, .pU (ret20v.2.2.getD 0 0), .pU (ret20v.2.2.getD 1 0), .pU (ret20v.2.2.getD 2 0), .pU (ret20v.2.2.getD 3 0), .pU (ret20v.2.2.getD 4 0)]), (8, [], .box [.pI (ret20v.1.length : Int), .pI k, .own 6162, .p (.int .u32) (1 : Int), .p (.int .u32) out]), (6162, [], .arr 66 t3 l6162)]⟩ : St)) (by kernel_rfl) ⟨trivial, trivial, trivial, trivial, trivial⟩ ?_
          refine awl_nil ?_
          refine thenQ_n ?_
          refine withJoin (σ := LN) (fun s => (⟨74, [(4, [], .v (.c (.ptr 4 0))), (7, [], .v (.c (.ptr 7 0))), (8, [], .v (.c (.ptr 8 0))), (9, [], .v (.c (.pI v34))), (33, [], .v (.c (.pI (ret20v.1.length : Int)))), (34, [], .v (.c (.pI v34)))], [(4, [], .box [.pI (0 : Int), .pI (0 : Int), .nils, .p (.int .u32) (0 : Int), .p (.int .u32) (0 : Int)]), (7, [], .box [.pS ret20v.1, .p (.sl (.ar 4 (.int .u64))) ret20v.2.1, .pU (ret20v.2.2.getD 0 0), .pU (ret20v.2.2.getD 1 0), .pU (ret20v.2.2.getD 2 0), .pU (ret20v.2.2.getD 3 0), .pU (ret20v.2.2.getD 4 0)]), (8, [], .box [.pI (ret20v.1.length : Int), .pI k, .own 6162, .p (.int .u32) (1 : Int), .p (.int .u32) out]), (6162, [], .arr 66 t3 s)]⟩ : St)) (fun s => VC31_k2 ret20v v34 out X1 s) (fun l61622 h => ?_) (fun rest3 => ?_)
          · have h : VC31_k2 ret20v v34 out X1 l61622 := h
            unfold VC31_k2 at h
            refine thenQ_n ?_
            refine aw_seq ?_
            refine aw_region ?_
            refine awl_runp 3 [4, 7, 8, 9, 33, 34, 63, 64] [4, 7, 8, 6162] (ob := (True ∧ True ∧ True ∧ True)) (st' := (⟨74, [(4, [], .v (.c (.ptr 4 0))), (7, [], .v (.c (.ptr 7 0))), (8, [], .v (.c (.ptr 8 0))), (9, [], .v (.c (.pI v34))), (33, [], .v (.c (.pI (ret20v.1.length : Int)))), (34, [], .v (.c (.pI v34))), (63, [], .v (.agg [.pU (ret20v.2.2.getD 0 0), .pU (ret20v.2.2.getD 1 0), .pU (ret20v.2.2.getD 2 0), .pU (ret20v.2.2.getD 3 0), .pU (ret20v.2.2.getD 4 0)])), (64, [], .v (.c (.pI v34)))], [(4, [], .box [.pI (0 : Int), .pI (0 : Int), .nils, .p (.int .u32) (0 : Int), .p (.int .u32) (0 : Int)]), (7, [], .box [.pS ret20v.1, .p (.sl (.ar 4 (.int .u64))) ret20v.2.1, .pU (ret20v.2.2.getD 0 0), .pU (ret20v.2.2.getD 1 0), .pU (ret20v.2.2.getD 2 0), .pU (ret20v.2.2.getD 3 0), .pU (ret20v.2.2.getD 4 0)]), (8, [], .box [.pI (ret20v.1.length : Int), .pI k, .own 6162, .p (.int .u32) (1 : Int), .p (.int .u32) out]), (6162, [], .arr 66 t3 l61622)]⟩ : St)) (by kernel_rfl) ⟨trivial, trivial, trivial, trivial⟩ ?_
            refine awl_callk (p := []) (l := [toV1 (.ar 4 (.int .u64)) [(ret20v.2.2.getD 0 0), (ret20v.2.2.getD 1 0), (ret20v.2.2.getD 2 0), (ret20v.2.2.getD 3 0), (ret20v.2.2.getD 4 0)], toV1 (.int .i64) v34]) (cl := []) false [.d (.ar 4 (.int .u64)), .d (.int .i64)] [4, 7, 8, 9, 33, 34, 65] [4, 7, 8, 6162] (fun (ret65v : Bool) => ((ret65v = true → (0 ≤ v34 ∧ VC31_k3 v34 X1 l61622 (bOr .u32 out (bShl .u32 (1 : Int) v34)))) ∧ (ret65v = false → VC31_k3 v34 X1 l61622 out))) (fun ret65v => [toV1 .bool ret65v]) (fun ret65v => (⟨74, [(4, [], .v (.c (.ptr 4 0))), (7, [], .v (.c (.ptr 7 0))), (8, [], .v (.c (.ptr 8 0))), (9, [], .v (.c (.pI v34))), (33, [], .v (.c (.pI (ret20v.1.length : Int)))), (34, [], .v (.c (.pI v34))), (65, [], .v (.c (.pB ret65v)))], [(4, [], .box [.pI (0 : Int), .pI (0 : Int), .nils, .p (.int .u32) (0 : Int), .p (.int .u32) (0 : Int)]), (7, [], .box [.pS ret20v.1, .p (.sl (.ar 4 (.int .u64))) ret20v.2.1, .pU (ret20v.2.2.getD 0 0), .pU (ret20v.2.2.getD 1 0), .pU (ret20v.2.2.getD 2 0), .pU (ret20v.2.2.getD 3 0), .pU (ret20v.2.2.getD 4 0)]), (8, [], .box [.pI (ret20v.1.length : Int), .pI k, .own 6162, .p (.int .u32) (1 : Int), .p (.int .u32) out]), (6162, [], .arr 66 t3 l61622)]⟩ : St)) (by kernel_rfl) rfl (by kernel_rfl) rfl (by kernel_rfl) Try.call61 (by kernel_rfl) (fun ret65v => by kernel_rfl) (fun e => by cases e) (fun hg => link61 [(ret20v.2.2.getD 0 0), (ret20v.2.2.getD 1 0), (ret20v.2.2.getD 2 0), (ret20v.2.2.getD 3 0), (ret20v.2.2.getD 4 0)] v34 _ h) (fun hg => noF hg) (fun ret65v h => ?_)
            have h : ((ret65v = true → (0 ≤ v34 ∧ VC31_k3 v34 X1 l61622 (bOr .u32 out (bShl .u32 (1 : Int) v34)))) ∧ (ret65v = false → VC31_k3 v34 X1 l61622 out)) := h
            refine awl_nil ?_
            refine thenQ_n ?_
            refine withJoin (σ := Int) (fun s => (⟨74, [(4, [], .v (.c (.ptr 4 0))), (7, [], .v (.c (.ptr 7 0))), (8, [], .v (.c (.ptr 8 0))), (33, [], .v (.c (.pI (ret20v.1.length : Int)))), (34, [], .v (.c (.pI v34)))], [(4, [], .box [.pI (0 : Int), .pI (0 : Int), .nils, .p (.int .u32) (0 : Int), .p (.int .u32) (0 : Int)]), (7, [], .box [.pS ret20v.1, .p (.sl (.ar 4 (.int .u64))) ret20v.2.1, .pU (ret20v.2.2.getD 0 0), .pU (ret20v.2.2.getD 1 0), .pU (ret20v.2.2.getD 2 0), .pU (ret20v.2.2.getD 3 0), .pU (ret20v.2.2.getD 4 0)]), (8, [], .box [.pI (ret20v.1.length : Int), .pI k, .own 6162, .p (.int .u32) (1 : Int), .p (.int .u32) s]), (6162, [], .arr 66 t3 l61622)]⟩ : St)) (fun s => VC31_k3 v34 X1 l61622 s) (fun out2 h => ?_) (fun rest2 => ?_)
            · have h : VC31_k3 v34 X1 l61622 out2 := h
              unfold VC31_k3 at h
              refine blockQ_n ?_
              refine thenQ_n ?_
              refine aw_region ?_
              obtain ⟨o1, h⟩ := h
              refine awl_runp 2 [4, 7, 8, 33, 34] [4, 7, 8, 6162] (ob := (InR (v34 + (1 : Int)) ∧ True ∧ True)) (st' := (⟨74, [(4, [], .v (.c (.ptr 4 0))), (7, [], .v (.c (.ptr 7 0))), (8, [], .v (.c (.ptr 8 0))), (33, [], .v (.c (.pI (ret20v.1.length : Int)))), (34, [], .v (.c (.pI (v34 + (1 : Int)))))], [(4, [], .box [.pI (0 : Int), .pI (0 : Int), .nils, .p (.int .u32) (0 : Int), .p (.int .u32) (0 : Int)]), (7, [], .box [.pS ret20v.1, .p (.sl (.ar 4 (.int .u64))) ret20v.2.1, .pU (ret20v.2.2.getD 0 0), .pU (ret20v.2.2.getD 1 0), .pU (ret20v.2.2.getD 2 0), .pU (ret20v.2.2.getD 3 0), .pU (ret20v.2.2.getD 4 0)]), (8, [], .box [.pI (ret20v.1.length : Int), .pI k, .own 6162, .p (.int .u32) (1 : Int), .p (.int .u32) out2]), (6162, [], .arr 66 t3 l61622)]⟩ : St)) (by kernel_rfl) ⟨o1, trivial, trivial⟩ ?_
              refine awl_nil ?_
              exact thenQ_n ⟨((v34 + (1 : Int)), out2, l61622), rfl, h⟩
            · refine aw_cond (b := ret65v) (by kernel_rfl) (fun hb => ?_) (fun hb => ?_)
              · have h := h.1 hb
                refine awd_begin [8] (by kernel_rfl) ?_
                obtain ⟨o1, h⟩ := h
                refine awd_runp (by kernel_rfl) [0, 2, 3] [4, 7, 8, 33, 34, 66, 69] [4, 7, 8, 6162] (ob := (True ∧ True ∧ 0 ≤ v34 ∧ True)) (done' := [3, 2, 0]) (st' := (⟨74, [(4, [], .v (.c (.ptr 4 0))), (7, [], .v (.c (.ptr 7 0))), (8, [], .v (.c (.ptr 8 0))), (33, [], .v (.c (.pI (ret20v.1.length : Int)))), (34, [], .v (.c (.pI v34))), (66, [], .v (.c (.ptr 8 4))), (69, [], .v (.c (.p (.int .u32) (bShl .u32 (1 : Int) v34))))], [(4, [], .box [.pI (0 : Int), .pI (0 : Int), .nils, .p (.int .u32) (0 : Int), .p (.int .u32) (0 : Int)]), (7, [], .box [.pS ret20v.1, .p (.sl (.ar 4 (.int .u64))) ret20v.2.1, .pU (ret20v.2.2.getD 0 0), .pU (ret20v.2.2.getD 1 0), .pU (ret20v.2.2.getD 2 0), .pU (ret20v.2.2.getD 3 0), .pU (ret20v.2.2.getD 4 0)]), (8, [], .box [.pI (ret20v.1.length : Int), .pI k, .own 6162, .p (.int .u32) (1 : Int), .p (.int .u32) out]), (6162, [], .arr 66 t3 l61622)]⟩ : St)) (by kernel_rfl) ⟨trivial, trivial, o1, trivial⟩ ?_
                refine awd_one (i := 1) (by kernel_rfl) ?_
                refine adop_stepp [4, 7, 8, 33, 34, 67, 69] [4, 7, 8, 6162] (ob := True) (st' := (⟨74, [(4, [], .v (.c (.ptr 4 0))), (7, [], .v (.c (.ptr 7 0))), (8, [], .v (.c (.ptr 8 0))), (33, [], .v (.c (.pI (ret20v.1.length : Int)))), (34, [], .v (.c (.pI v34))), (67, [], .v (.c (.p (.int .u32) out))), (69, [], .v (.c (.p (.int .u32) (bShl .u32 (1 : Int) v34))))], [(4, [], .box [.pI (0 : Int), .pI (0 : Int), .nils, .p (.int .u32) (0 : Int), .p (.int .u32) (0 : Int)]), (7, [], .box [.pS ret20v.1, .p (.sl (.ar 4 (.int .u64))) ret20v.2.1, .pU (ret20v.2.2.getD 0 0), .pU (ret20v.2.2.getD 1 0), .pU (ret20v.2.2.getD 2 0), .pU (ret20v.2.2.getD 3 0), .pU (ret20v.2.2.getD 4 0)]), (8, [], .box [.pI (ret20v.1.length : Int), .pI k, .own 6162, .p (.int .u32) (1 : Int), .p (.int .u32) out]), (6162, [], .arr 66 t3 l61622)]⟩ : St)) rfl (by kernel_rfl) trivial ?_
                refine awd_runp (by kernel_rfl) [4, 5] [4, 7, 8, 33, 34, 70, 71] [4, 7, 8, 6162] (ob := (True ∧ True ∧ True)) (done' := [5, 4, 1, 3, 2, 0]) (st' := (⟨74, [(4, [], .v (.c (.ptr 4 0))), (7, [], .v (.c (.ptr 7 0))), (8, [], .v (.c (.ptr 8 0))), (33, [], .v (.c (.pI (ret20v.1.length : Int)))), (34, [], .v (.c (.pI v34))), (70, [], .v (.c (.p (.int .u32) (bOr .u32 out (bShl .u32 (1 : Int) v34))))), (71, [], .v (.c (.ptr 8 4)))], [(4, [], .box [.pI (0 : Int), .pI (0 : Int), .nils, .p (.int .u32) (0 : Int), .p (.int .u32) (0 : Int)]), (7, [], .box [.pS ret20v.1, .p (.sl (.ar 4 (.int .u64))) ret20v.2.1, .pU (ret20v.2.2.getD 0 0), .pU (ret20v.2.2.getD 1 0), .pU (ret20v.2.2.getD 2 0), .pU (ret20v.2.2.getD 3 0), .pU (ret20v.2.2.getD 4 0)]), (8, [], .box [.pI (ret20v.1.length : Int), .pI k, .own 6162, .p (.int .u32) (1 : Int), .p (.int .u32) out]), (6162, [], .arr 66 t3 l61622)]⟩ : St)) (by kernel_rfl) ⟨trivial, trivial, trivial⟩ ?_
                refine awd_one (i := 6) (by kernel_rfl) ?_
                refine adop_stepp [4, 7, 8, 33, 34] [4, 7, 8, 6162] (ob := True) (st' := (⟨74, [(4, [], .v (.c (.ptr 4 0))), (7, [], .v (.c (.ptr 7 0))), (8, [], .v (.c (.ptr 8 0))), (33, [], .v (.c (.pI (ret20v.1.length : Int)))), (34, [], .v (.c (.pI v34)))], [(4, [], .box [.pI (0 : Int), .pI (0 : Int), .nils, .p (.int .u32) (0 : Int), .p (.int .u32) (0 : Int)]), (7, [], .box [.pS ret20v.1, .p (.sl (.ar 4 (.int .u64))) ret20v.2.1, .pU (ret20v.2.2.getD 0 0), .pU (ret20v.2.2.getD 1 0), .pU (ret20v.2.2.getD 2 0), .pU (ret20v.2.2.getD 3 0), .pU (ret20v.2.2.getD 4 0)]), (8, [], .box [.pI (ret20v.1.length : Int), .pI k, .own 6162, .p (.int .u32) (1 : Int), .p (.int .u32) (bOr .u32 out (bShl .u32 (1 : Int) v34))]), (6162, [], .arr 66 t3 l61622)]⟩ : St)) rfl (by kernel_rfl) trivial ?_
                refine awd_done (by kernel_rfl) ?_
                exact rest2 (bOr .u32 out (bShl .u32 (1 : Int) v34)) h
              · have h := h.2 hb
                refine aw_conv [.prune [4, 7, 8, 33, 34] [4, 7, 8, 6162]] (st' := (⟨74, [(4, [], .v (.c (.ptr 4 0))), (7, [], .v (.c (.ptr 7 0))), (8, [], .v (.c (.ptr 8 0))), (33, [], .v (.c (.pI (ret20v.1.length : Int)))), (34, [], .v (.c (.pI v34)))], [(4, [], .box [.pI (0 : Int), .pI (0 : Int), .nils, .p (.int .u32) (0 : Int), .p (.int .u32) (0 : Int)]), (7, [], .box [.pS ret20v.1, .p (.sl (.ar 4 (.int .u64))) ret20v.2.1, .pU (ret20v.2.2.getD 0 0), .pU (ret20v.2.2.getD 1 0), .pU (ret20v.2.2.getD 2 0), .pU (ret20v.2.2.getD 3 0), .pU (ret20v.2.2.getD 4 0)]), (8, [], .box [.pI (ret20v.1.length : Int), .pI k, .own 6162, .p (.int .u32) (1 : Int), .p (.int .u32) out]), (6162, [], .arr 66 t3 l61622)]⟩ : St)) (by kernel_rfl) ?_
                refine aw_skip ?_
                exact rest2 out h
          · refine aw_block ?_
            refine aw_loop (σ := Int × LN) (fun s => (⟨74, [(4, [], .v (.c (.ptr 4 0))), (7, [], .v (.c (.ptr 7 0))), (8, [], .v (.c (.ptr 8 0))), (9, [], .v (.c (.pI v34))), (33, [], .v (.c (.pI (ret20v.1.length : Int)))), (34, [], .v (.c (.pI v34))), (38, [], .v (.c (.pS ret20v.1))), (39, [], .v (.c (.pI (ret20v.1.length : Int)))), (40, [], .v (.c (.pI s.1)))], [(4, [], .box [.pI (0 : Int), .pI (0 : Int), .nils, .p (.int .u32) (0 : Int), .p (.int .u32) (0 : Int)]), (7, [], .box [.pS ret20v.1, .p (.sl (.ar 4 (.int .u64))) ret20v.2.1, .pU (ret20v.2.2.getD 0 0), .pU (ret20v.2.2.getD 1 0), .pU (ret20v.2.2.getD 2 0), .pU (ret20v.2.2.getD 3 0), .pU (ret20v.2.2.getD 4 0)]), (8, [], .box [.pI (ret20v.1.length : Int), .pI k, .own 6162, .p (.int .u32) (1 : Int), .p (.int .u32) out]), (6162, [], .arr 66 t3 s.2)]⟩ : St)) (fun s X => VC31_l2 ret20v v34 out X1 s.1 s.2 X) (s0 := ((0 : Int), l6162)) (fun s X2 h => ?_) h
            obtain ⟨v40, l61622⟩ := s
            have h : VC31_l2 ret20v v34 out X1 v40 l61622 X2 := h
            unfold VC31_l2 at h
            refine aw_seq ?_
            refine aw_region ?_
            refine awl_runp 1 [4, 7, 8, 9, 33, 34, 38, 39, 40, 41] [4, 7, 8, 6162] (ob := (True ∧ True)) (st' := (⟨74, [(4, [], .v (.c (.ptr 4 0))), (7, [], .v (.c (.ptr 7 0))), (8, [], .v (.c (.ptr 8 0))), (9, [], .v (.c (.pI v34))), (33, [], .v (.c (.pI (ret20v.1.length : Int)))), (34, [], .v (.c (.pI v34))), (38, [], .v (.c (.pS ret20v.1))), (39, [], .v (.c (.pI (ret20v.1.length : Int)))), (40, [], .v (.c (.pI v40))), (41, [], .v (.c (.pB (decide (v40 < (ret20v.1.length : Int))))))], [(4, [], .box [.pI (0 : Int), .pI (0 : Int), .nils, .p (.int .u32) (0 : Int), .p (.int .u32) (0 : Int)]), (7, [], .box [.pS ret20v.1, .p (.sl (.ar 4 (.int .u64))) ret20v.2.1, .pU (ret20v.2.2.getD 0 0), .pU (ret20v.2.2.getD 1 0), .pU (ret20v.2.2.getD 2 0), .pU (ret20v.2.2.getD 3 0), .pU (ret20v.2.2.getD 4 0)]), (8, [], .box [.pI (ret20v.1.length : Int), .pI k, .own 6162, .p (.int .u32) (1 : Int), .p (.int .u32) out]), (6162, [], .arr 66 t3 l61622)]⟩ : St)) (by kernel_rfl) ⟨trivial, trivial⟩ ?_
            refine awl_nil ?_
            refine thenQ_n ?_
            refine aw_seq ?_
            refine aw_cond (b := (decide (v40 < (ret20v.1.length : Int)))) (by kernel_rfl) (fun hb => ?_) (fun hb => ?_)
            · have h := h.1 hb
              refine aw_skip ?_
              refine thenQ_n ?_
              refine aw_seq ?_
              refine aw_block ?_
              refine aw_seq ?_
              refine aw_region ?_
              obtain ⟨o1, h⟩ := h
              refine awl_runp 5 [4, 7, 8, 9, 10, 11, 33, 34, 38, 39, 40] [4, 7, 8, 6162] (ob := (True ∧ inIdx v40 ret20v.1.length ∧ True ∧ True ∧ True ∧ True)) (st' := (⟨74, [(4, [], .v (.c (.ptr 4 0))), (7, [], .v (.c (.ptr 7 0))), (8, [], .v (.c (.ptr 8 0))), (9, [], .v (.c (.pI v34))), (10, [], .v (.c (.pI v40))), (11, [], .v (.c (.pI (ret20v.1.getD (v40).toNat (0 : Int))))), (33, [], .v (.c (.pI (ret20v.1.length : Int)))), (34, [], .v (.c (.pI v34))), (38, [], .v (.c (.pS ret20v.1))), (39, [], .v (.c (.pI (ret20v.1.length : Int)))), (40, [], .v (.c (.pI v40)))], [(4, [], .box [.pI (0 : Int), .pI (0 : Int), .nils, .p (.int .u32) (0 : Int), .p (.int .u32) (0 : Int)]), (7, [], .box [.pS ret20v.1, .p (.sl (.ar 4 (.int .u64))) ret20v.2.1, .pU (ret20v.2.2.getD 0 0), .pU (ret20v.2.2.getD 1 0), .pU (ret20v.2.2.getD 2 0), .pU (ret20v.2.2.getD 3 0), .pU (ret20v.2.2.getD 4 0)]), (8, [], .box [.pI (ret20v.1.length : Int), .pI k, .own 6162, .p (.int .u32) (1 : Int), .p (.int .u32) out]), (6162, [], .arr 66 t3 l61622)]⟩ : St)) (by kernel_rfl) ⟨trivial, o1, trivial, trivial, trivial, trivial⟩ ?_
              refine awl_nil ?_
              refine thenQ_n ?_
              refine aw_seq ?_
              refine aw_region ?_
              obtain ⟨o1, h⟩ := h
              refine awl_runp 6 [4, 7, 8, 9, 10, 11, 33, 34, 38, 39, 40, 49, 50] [4, 7, 8, 6162] (ob := (True ∧ True ∧ True ∧ inIdx v34 ret20v.2.1.length ∧ True ∧ True ∧ True)) (st' := (⟨74, [(4, [], .v (.c (.ptr 4 0))), (7, [], .v (.c (.ptr 7 0))), (8, [], .v (.c (.ptr 8 0))), (9, [], .v (.c (.pI v34))), (10, [], .v (.c (.pI v40))), (11, [], .v (.c (.pI (ret20v.1.getD (v40).toNat (0 : Int))))), (33, [], .v (.c (.pI (ret20v.1.length : Int)))), (34, [], .v (.c (.pI v34))), (38, [], .v (.c (.pS ret20v.1))), (39, [], .v (.c (.pI (ret20v.1.length : Int)))), (40, [], .v (.c (.pI v40))), (49, [], .v (.agg [.pU ((ret20v.2.1.getD (v34).toNat (List.replicate 5 (0 : Int))).getD 0 0), .pU ((ret20v.2.1.getD (v34).toNat (List.replicate 5 (0 : Int))).getD 1 0), .pU ((ret20v.2.1.getD (v34).toNat (List.replicate 5 (0 : Int))).getD 2 0), .pU ((ret20v.2.1.getD (v34).toNat (List.replicate 5 (0 : Int))).getD 3 0), .pU ((ret20v.2.1.getD (v34).toNat (List.replicate 5 (0 : Int))).getD 4 0)])), (50, [], .v (.c (.pI v40)))], [(4, [], .box [.pI (0 : Int), .pI (0 : Int), .nils, .p (.int .u32) (0 : Int), .p (.int .u32) (0 : Int)]), (7, [], .box [.pS ret20v.1, .p (.sl (.ar 4 (.int .u64))) ret20v.2.1, .pU (ret20v.2.2.getD 0 0), .pU (ret20v.2.2.getD 1 0), .pU (ret20v.2.2.getD 2 0), .pU (ret20v.2.2.getD 3 0), .pU (ret20v.2.2.getD 4 0)]), (8, [], .box [.pI (ret20v.1.length : Int), .pI k, .own 6162, .p (.int .u32) (1 : Int), .p (.int .u32) out]), (6162, [], .arr 66 t3 l61622)]⟩ : St)) (by kernel_rfl) ⟨trivial, trivial, trivial, o1, trivial, trivial, trivial⟩ ?_
              refine awl_callk (p := []) (l := [toV1 (.ar 4 (.int .u64)) [((ret20v.2.1.getD (v34).toNat (List.replicate 5 (0 : Int))).getD 0 0), ((ret20v.2.1.getD (v34).toNat (List.replicate 5 (0 : Int))).getD 1 0), ((ret20v.2.1.getD (v34).toNat (List.replicate 5 (0 : Int))).getD 2 0), ((ret20v.2.1.getD (v34).toNat (List.replicate 5 (0 : Int))).getD 3 0), ((ret20v.2.1.getD (v34).toNat (List.replicate 5 (0 : Int))).getD 4 0)], toV1 (.int .i64) v40]) (cl := []) false [.d (.ar 4 (.int .u64)), .d (.int .i64)] [4, 7, 8, 9, 10, 11, 33, 34, 38, 39, 40, 51] [4, 7, 8, 6162] (fun (ret51v : Bool) => ((ret51v = true → (roomN (l61622.length + [(v34, ((ret20v.1.getD (v40).toNat (0 : Int)), v40))].length) ∧ VC31_k4 v40 X2 (l61622 ++ [(v34, ((ret20v.1.getD (v40).toNat (0 : Int)), v40))]))) ∧ (ret51v = false → VC31_k4 v40 X2 l61622))) (fun ret51v => [toV1 .bool ret51v]) (fun ret51v => (⟨74, [(4, [], .v (.c (.ptr 4 0))), (7, [], .v (.c (.ptr 7 0))), (8, [], .v (.c (.ptr 8 0))), (9, [], .v (.c (.pI v34))), (10, [], .v (.c (.pI v40))), (11, [], .v (.c (.pI (ret20v.1.getD (v40).toNat (0 : Int))))), (33, [], .v (.c (.pI (ret20v.1.length : Int)))), (34, [], .v (.c (.pI v34))), (38, [], .v (.c (.pS ret20v.1))), (39, [], .v (.c (.pI (ret20v.1.length : Int)))), (40, [], .v (.c (.pI v40))), (51, [], .v (.c (.pB ret51v)))], [(4, [], .box [.pI (0 : Int), .pI (0 : Int), .nils, .p (.int .u32) (0 : Int), .p (.int .u32) (0 : Int)]), (7, [], .box [.pS ret20v.1, .p (.sl (.ar 4 (.int .u64))) ret20v.2.1, .pU (ret20v.2.2.getD 0 0), .pU (ret20v.2.2.getD 1 0), .pU (ret20v.2.2.getD 2 0), .pU (ret20v.2.2.getD 3 0), .pU (ret20v.2.2.getD 4 0)]), (8, [], .box [.pI (ret20v.1.length : Int), .pI k, .own 6162, .p (.int .u32) (1 : Int), .p (.int .u32) out]), (6162, [], .arr 66 t3 l61622)]⟩ : St)) (by kernel_rfl) rfl (by kernel_rfl) rfl (by kernel_rfl) Try.call61 (by kernel_rfl) (fun ret51v => by kernel_rfl) (fun e => by cases e) (fun hg => link61 [((ret20v.2.1.getD (v34).toNat (List.replicate 5 (0 : Int))).getD 0 0), ((ret20v.2.1.getD (v34).toNat (List.replicate 5 (0 : Int))).getD 1 0), ((ret20v.2.1.getD (v34).toNat (List.replicate 5 (0 : Int))).getD 2 0), ((ret20v.2.1.getD (v34).toNat (List.replicate 5 (0 : Int))).getD 3 0), ((ret20v.2.1.getD (v34).toNat (List.replicate 5 (0 : Int))).getD 4 0)] v40 _ h) (fun hg => noF hg) (fun ret51v h => ?_)
              have h : ((ret51v = true → (roomN (l61622.length + [(v34, ((ret20v.1.getD (v40).toNat (0 : Int)), v40))].length) ∧ VC31_k4 v40 X2 (l61622 ++ [(v34, ((ret20v.1.getD (v40).toNat (0 : Int)), v40))]))) ∧ (ret51v = false → VC31_k4 v40 X2 l61622)) := h
              refine awl_nil ?_
              refine thenQ_n ?_
              refine withJoin (σ := LN) (fun s => (⟨74, [(4, [], .v (.c (.ptr 4 0))), (7, [], .v (.c (.ptr 7 0))), (8, [], .v (.c (.ptr 8 0))), (9, [], .v (.c (.pI v34))), (33, [], .v (.c (.pI (ret20v.1.length : Int)))), (34, [], .v (.c (.pI v34))), (38, [], .v (.c (.pS ret20v.1))), (39, [], .v (.c (.pI (ret20v.1.length : Int)))), (40, [], .v (.c (.pI v40)))], [(4, [], .box [.pI (0 : Int), .pI (0 : Int), .nils, .p (.int .u32) (0 : Int), .p (.int .u32) (0 : Int)]), (7, [], .box [.pS ret20v.1, .p (.sl (.ar 4 (.int .u64))) ret20v.2.1, .pU (ret20v.2.2.getD 0 0), .pU (ret20v.2.2.getD 1 0), .pU (ret20v.2.2.getD 2 0), .pU (ret20v.2.2.getD 3 0), .pU (ret20v.2.2.getD 4 0)]), (8, [], .box [.pI (ret20v.1.length : Int), .pI k, .own 59, .p (.int .u32) (1 : Int), .p (.int .u32) out]), (59, [], .arr 66 t3 s)]⟩ : St)) (fun s => VC31_k4 v40 X2 s) (fun l59 h => ?_) (fun rest4 => ?_)
              · have h : VC31_k4 v40 X2 l59 := h
                unfold VC31_k4 at h
                refine blockQ_n ?_
                refine thenQ_n ?_
                refine aw_region ?_
                obtain ⟨o1, h⟩ := h
                refine awl_runp 2 [4, 7, 8, 9, 33, 34, 38, 39, 40] [4, 7, 8, 59] (ob := (InR (v40 + (1 : Int)) ∧ True ∧ True)) (st' := (⟨74, [(4, [], .v (.c (.ptr 4 0))), (7, [], .v (.c (.ptr 7 0))), (8, [], .v (.c (.ptr 8 0))), (9, [], .v (.c (.pI v34))), (33, [], .v (.c (.pI (ret20v.1.length : Int)))), (34, [], .v (.c (.pI v34))), (38, [], .v (.c (.pS ret20v.1))), (39, [], .v (.c (.pI (ret20v.1.length : Int)))), (40, [], .v (.c (.pI (v40 + (1 : Int)))))], [(4, [], .box [.pI (0 : Int), .pI (0 : Int), .nils, .p (.int .u32) (0 : Int), .p (.int .u32) (0 : Int)]), (7, [], .box [.pS ret20v.1, .p (.sl (.ar 4 (.int .u64))) ret20v.2.1, .pU (ret20v.2.2.getD 0 0), .pU (ret20v.2.2.getD 1 0), .pU (ret20v.2.2.getD 2 0), .pU (ret20v.2.2.getD 3 0), .pU (ret20v.2.2.getD 4 0)]), (8, [], .box [.pI (ret20v.1.length : Int), .pI k, .own 59, .p (.int .u32) (1 : Int), .p (.int .u32) out]), (59, [], .arr 66 t3 l59)]⟩ : St)) (by kernel_rfl) ⟨o1, trivial, trivial⟩ ?_
                refine awl_conv [.ren 59 20059, .ren 20059 6162] (st' := (⟨74, [(4, [], .v (.c (.ptr 4 0))), (7, [], .v (.c (.ptr 7 0))), (8, [], .v (.c (.ptr 8 0))), (9, [], .v (.c (.pI v34))), (33, [], .v (.c (.pI (ret20v.1.length : Int)))), (34, [], .v (.c (.pI v34))), (38, [], .v (.c (.pS ret20v.1))), (39, [], .v (.c (.pI (ret20v.1.length : Int)))), (40, [], .v (.c (.pI (v40 + (1 : Int)))))], [(4, [], .box [.pI (0 : Int), .pI (0 : Int), .nils, .p (.int .u32) (0 : Int), .p (.int .u32) (0 : Int)]), (7, [], .box [.pS ret20v.1, .p (.sl (.ar 4 (.int .u64))) ret20v.2.1, .pU (ret20v.2.2.getD 0 0), .pU (ret20v.2.2.getD 1 0), .pU (ret20v.2.2.getD 2 0), .pU (ret20v.2.2.getD 3 0), .pU (ret20v.2.2.getD 4 0)]), (8, [], .box [.pI (ret20v.1.length : Int), .pI k, .own 6162, .p (.int .u32) (1 : Int), .p (.int .u32) out]), (6162, [], .arr 66 t3 l59)]⟩ : St)) (by kernel_rfl) ?_
                refine awl_nil ?_
                exact thenQ_n ⟨((v40 + (1 : Int)), l59), rfl, h⟩
              · refine aw_cond (b := ret51v) (by kernel_rfl) (fun hb => ?_) (fun hb => ?_)
                · have h := h.1 hb
                  refine aw_region ?_
                  obtain ⟨o1, h⟩ := h
                  refine awl_runp 10 [4, 7, 8, 9, 33, 34, 38, 39, 40] [4, 7, 8, 59] (ob := (True ∧ True ∧ True ∧ True ∧ True ∧ True ∧ True ∧ roomN (l61622.length + [(v34, ((ret20v.1.getD (v40).toNat (0 : Int)), v40))].length) ∧ True ∧ True ∧ True)) (st' := (⟨74, [(4, [], .v (.c (.ptr 4 0))), (7, [], .v (.c (.ptr 7 0))), (8, [], .v (.c (.ptr 8 0))), (9, [], .v (.c (.pI v34))), (33, [], .v (.c (.pI (ret20v.1.length : Int)))), (34, [], .v (.c (.pI v34))), (38, [], .v (.c (.pS ret20v.1))), (39, [], .v (.c (.pI (ret20v.1.length : Int)))), (40, [], .v (.c (.pI v40)))], [(4, [], .box [.pI (0 : Int), .pI (0 : Int), .nils, .p (.int .u32) (0 : Int), .p (.int .u32) (0 : Int)]), (7, [], .box [.pS ret20v.1, .p (.sl (.ar 4 (.int .u64))) ret20v.2.1, .pU (ret20v.2.2.getD 0 0), .pU (ret20v.2.2.getD 1 0), .pU (ret20v.2.2.getD 2 0), .pU (ret20v.2.2.getD 3 0), .pU (ret20v.2.2.getD 4 0)]), (8, [], .box [.pI (ret20v.1.length : Int), .pI k, .own 59, .p (.int .u32) (1 : Int), .p (.int .u32) out]), (59, [], .arr 66 t3 (l61622 ++ [(v34, ((ret20v.1.getD (v40).toNat (0 : Int)), v40))]))]⟩ : St)) (by kernel_rfl) ⟨trivial, trivial, trivial, trivial, trivial, trivial, trivial, o1, trivial, trivial, trivial⟩ ?_
                  refine awl_nil ?_
                  exact rest4 (l61622 ++ [(v34, ((ret20v.1.getD (v40).toNat (0 : Int)), v40))]) h
                · have h := h.2 hb
                  refine aw_conv [.prune [4, 7, 8, 9, 33, 34, 38, 39, 40] [4, 7, 8, 6162], .ren 6162 26162, .ren 26162 59] (st' := (⟨74, [(4, [], .v (.c (.ptr 4 0))), (7, [], .v (.c (.ptr 7 0))), (8, [], .v (.c (.ptr 8 0))), (9, [], .v (.c (.pI v34))), (33, [], .v (.c (.pI (ret20v.1.length : Int)))), (34, [], .v (.c (.pI v34))), (38, [], .v (.c (.pS ret20v.1))), (39, [], .v (.c (.pI (ret20v.1.length : Int)))), (40, [], .v (.c (.pI v40)))], [(4, [], .box [.pI (0 : Int), .pI (0 : Int), .nils, .p (.int .u32) (0 : Int), .p (.int .u32) (0 : Int)]), (7, [], .box [.pS ret20v.1, .p (.sl (.ar 4 (.int .u64))) ret20v.2.1, .pU (ret20v.2.2.getD 0 0), .pU (ret20v.2.2.getD 1 0), .pU (ret20v.2.2.getD 2 0), .pU (ret20v.2.2.getD 3 0), .pU (ret20v.2.2.getD 4 0)]), (8, [], .box [.pI (ret20v.1.length : Int), .pI k, .own 59, .p (.int .u32) (1 : Int), .p (.int .u32) out]), (59, [], .arr 66 t3 l61622)]⟩ : St)) (by kernel_rfl) ?_
                  refine aw_skip ?_
                  exact rest4 l61622 h
            · have h := h.2 hb
              refine aw_conv [.prune [4, 7, 8, 9, 33, 34] [4, 7, 8, 6162]] (st' := (⟨74, [(4, [], .v (.c (.ptr 4 0))), (7, [], .v (.c (.ptr 7 0))), (8, [], .v (.c (.ptr 8 0))), (9, [], .v (.c (.pI v34))), (33, [], .v (.c (.pI (ret20v.1.length : Int)))), (34, [], .v (.c (.pI v34)))], [(4, [], .box [.pI (0 : Int), .pI (0 : Int), .nils, .p (.int .u32) (0 : Int), .p (.int .u32) (0 : Int)]), (7, [], .box [.pS ret20v.1, .p (.sl (.ar 4 (.int .u64))) ret20v.2.1, .pU (ret20v.2.2.getD 0 0), .pU (ret20v.2.2.getD 1 0), .pU (ret20v.2.2.getD 2 0), .pU (ret20v.2.2.getD 3 0), .pU (ret20v.2.2.getD 4 0)]), (8, [], .box [.pI (ret20v.1.length : Int), .pI k, .own 6162, .p (.int .u32) (1 : Int), .p (.int .u32) out]), (6162, [], .arr 66 t3 l61622)]⟩ : St)) (by kernel_rfl) ?_
              refine aw_exit ?_
              refine thenQ_x ?_
              refine thenQ_x ?_
              refine blockQ_hit ?_
              exact rest3 l61622 h
        · have h := h.2 hb
          refine aw_conv [.prune [4, 8] [4, 8, 6162]] (st' := (⟨74, [(4, [], .v (.c (.ptr 4 0))), (8, [], .v (.c (.ptr 8 0)))], [(4, [], .box [.pI (0 : Int), .pI (0 : Int), .nils, .p (.int .u32) (0 : Int), .p (.int .u32) (0 : Int)]), (8, [], .box [.pI (ret20v.1.length : Int), .pI k, .own 6162, .p (.int .u32) (1 : Int), .p (.int .u32) out]), (6162, [], .arr 66 t3 l6162)]⟩ : St)) (by kernel_rfl) ?_
          refine aw_exit ?_
          refine thenQ_x ?_
          refine thenQ_x ?_
          refine blockQ_hit ?_
          exact rest1 (out, l6162) h

-- coppicer/machine.within
def VC82 (n : Int) (low : Int) (high : Int) (K : Bool → Prop) : Prop :=
  K ((decide (low ≤ n)) && (decide (n ≤ high)))

set_option maxHeartbeats 4000000 in
theorem link82 (n : Int) (low : Int) (high : Int) (K : Bool → Prop) (h : VC82 n low high K) : ACalls Try.prog 82 [toV1 (.int .i64) n, toV1 (.int .i64) low, toV1 (.int .i64) high] (fun res => ∃ y, res = (fun y => [toV1 .bool y]) y ∧ K y) := by
  refine acalls_of_aw [.bool] [.t 6] Try.func82 rfl rfl rfl ?_
  unfold VC82 at h
  refine aw_seq ?_
  refine aw_region ?_
  refine awl_runp 1 [0, 1, 2] [] (ob := (True ∧ True)) (st' := (⟨15, [(0, [], .v (.c (.pI n))), (1, [], .v (.c (.pI low))), (2, [], .v (.c (.pI high)))], []⟩ : St)) (by kernel_rfl) ⟨trivial, trivial⟩ ?_
  refine awl_nil ?_
  refine thenQ_n ?_
  refine aw_seq ?_
  refine aw_region ?_
  refine awl_runp 9 [6] [] (ob := (True ∧ True ∧ True ∧ True ∧ ((decide (low ≤ n)) = true → True) ∧ ((decide (low ≤ n)) = true → True) ∧ ((decide (low ≤ n)) = true → True) ∧ True ∧ True ∧ True)) (st' := (⟨15, [(6, [], .v (.c (.pB ((decide (low ≤ n)) && (decide (n ≤ high))))))], []⟩ : St)) (by kernel_rfl) ⟨trivial, trivial, trivial, trivial, (fun _ => trivial), (fun _ => trivial), (fun _ => trivial), trivial, trivial, trivial⟩ ?_
  refine awl_nil ?_
  refine thenQ_n ?_
  refine aw_ret ?_
  exact retQ_r (σ := Bool) (R := (fun y => [toV1 .bool y])) (ob := (True ∧ True)) ((decide (low ≤ n)) && (decide (n ≤ high))) (by kernel_rfl) ⟨trivial, trivial⟩ h

-- coppicer/machine.Word$1
def VC81 (sv : Int) (a1 : Int) (K : Bool → Prop) : Prop :=
  (InR (a1 - (1 : Int)) ∧ VC82 sv (0 : Int) (a1 - (1 : Int)) (fun (ret7v : Bool) => K (!ret7v)))

set_option maxHeartbeats 4000000 in
theorem link81 (sv : Int) (a1 : Int) (K : Bool → Prop) (h : VC81 sv a1 K) : ACalls Try.prog 81 [toV1 (.int .i64) sv, .c (.ad (.int .i64) a1)] (fun res => ∃ y, res = (fun y => [toV1 .bool y]) y ∧ K y) := by
  refine acalls_of_aw [.bool] [.t 3] Try.func81 rfl rfl rfl ?_
  unfold VC81 at h
  refine aw_seq ?_
  refine aw_region ?_
  refine awl_runp 1 [0, 1] [] (ob := (True ∧ True)) (st' := (⟨9, [(0, [], .v (.c (.pI sv))), (1, [], .v (.c (.ad (.int .i64) a1)))], []⟩ : St)) (by kernel_rfl) ⟨trivial, trivial⟩ ?_
  refine awl_nil ?_
  refine thenQ_n ?_
  refine aw_seq ?_
  refine aw_region ?_
  obtain ⟨o1, h⟩ := h
  refine awl_runp 3 [4, 6] [] (ob := (True ∧ True ∧ InR (a1 - (1 : Int)) ∧ True)) (st' := (⟨9, [(4, [], .v (.c (.pI sv))), (6, [], .v (.c (.pI (a1 - (1 : Int)))))], []⟩ : St)) (by kernel_rfl) ⟨trivial, trivial, o1, trivial⟩ ?_
  refine awl_callk (p := []) (l := [toV1 (.int .i64) sv, toV1 (.int .i64) (0 : Int), toV1 (.int .i64) (a1 - (1 : Int))]) (cl := []) false [.d (.int .i64), .d (.int .i64), .d (.int .i64)] [7] [] (fun (ret7v : Bool) => K (!ret7v)) (fun ret7v => [toV1 .bool ret7v]) (fun ret7v => (⟨9, [(7, [], .v (.c (.pB ret7v)))], []⟩ : St)) (by kernel_rfl) rfl (by kernel_rfl) rfl (by kernel_rfl) Try.call82 (by kernel_rfl) (fun ret7v => by kernel_rfl) (fun e => by cases e) (fun hg => link82 sv (0 : Int) (a1 - (1 : Int)) _ h) (fun hg => noF hg) (fun ret7v h => ?_)
  have h : K (!ret7v) := h
  refine awl_runp 2 [3] [] (ob := (True ∧ True ∧ True)) (st' := (⟨9, [(3, [], .v (.c (.pB (!ret7v))))], []⟩ : St)) (by kernel_rfl) ⟨trivial, trivial, trivial⟩ ?_
  refine awl_nil ?_
  refine thenQ_n ?_
  refine aw_ret ?_
  exact retQ_r (σ := Bool) (R := (fun y => [toV1 .bool y])) (ob := (True ∧ True)) (!ret7v) (by kernel_rfl) ⟨trivial, trivial⟩ h

-- slices.IndexFunc[[]int,int]
def VC55_k1 (K : Int → Prop) : Prop :=
  K (-1 : Int)

def VC55_l1 (sv : LI) (F1 : Int → (Bool → Prop) → Prop) (K : Int → Prop) (v8 : Int) (X1 : Int → Prop) : Prop :=
  (((decide (v8 < (sv.length : Int))) = true → (inIdx v8 sv.length ∧ F1 (sv.getD (v8).toNat (0 : Int)) (fun (ret16v : Bool) => ((ret16v = true → K v8) ∧ (ret16v = false → (InR (v8 + (1 : Int)) ∧ X1 (v8 + (1 : Int)))))))) ∧ ((decide (v8 < (sv.length : Int))) = false → VC55_k1 K))

def VC55 (sv : LI) (F1 : Int → (Bool → Prop) → Prop) (K : Int → Prop) : Prop :=
  Loop (σ := Int) (fun s X => VC55_l1 sv F1 K s X) (0 : Int)

set_option maxHeartbeats 4000000 in
theorem link55 (sv : LI) (fv1 : FuncId) (cv1 : List Dat) (F1 : Int → (Bool → Prop) → Prop) (hF1 : FnIs Try.prog fv1 cv1 (fun (x : Int) => [toV1 (.int .i64) x]) (fun (y : Bool) => [toV1 .bool y]) F1) (K : Int → Prop) (h : VC55 sv F1 K) : ACalls Try.prog 55 [toV1 (.sl (.int .i64)) sv, .c (.fn fv1 cv1)] (fun res => ∃ y, res = (fun y => [toV1 (.int .i64) y]) y ∧ K y) := by
  refine acalls_of_aw [(.int .i64)] [.t 4] Try.func55 rfl rfl rfl ?_
  unfold VC55 at h
  refine aw_seq ?_
  refine aw_region ?_
  refine awl_runp 1 [0, 1] [] (ob := (True ∧ True)) (st' := (⟨19, [(0, [], .v (.c (.pS sv))), (1, [], .v (.c (.fn fv1 cv1)))], []⟩ : St)) (by kernel_rfl) ⟨trivial, trivial⟩ ?_
  refine awl_nil ?_
  refine thenQ_n ?_
  refine aw_seq ?_
  refine aw_seq ?_
  refine aw_region ?_
  refine awl_runp 3 [0, 1, 7, 8] [] (ob := (True ∧ True ∧ True ∧ True)) (st' := (⟨19, [(0, [], .v (.c (.pS sv))), (1, [], .v (.c (.fn fv1 cv1))), (7, [], .v (.c (.pI (sv.length : Int)))), (8, [], .v (.c (.pI (0 : Int))))], []⟩ : St)) (by kernel_rfl) ⟨trivial, trivial, trivial, trivial⟩ ?_
  refine awl_nil ?_
  refine thenQ_n ?_
  refine withJoin (σ := Unit) (fun s => (⟨19, [], []⟩ : St)) (fun s => VC55_k1 K) (fun s h => ?_) (fun rest1 => ?_)
  · have h : VC55_k1 K := h
    unfold VC55_k1 at h
    refine thenQ_n ?_
    refine aw_seq ?_
    refine aw_region ?_
    refine awl_runp 1 [4] [] (ob := (True ∧ True)) (st' := (⟨19, [(4, [], .v (.c (.pI (-1 : Int))))], []⟩ : St)) (by kernel_rfl) ⟨trivial, trivial⟩ ?_
    refine awl_nil ?_
    refine thenQ_n ?_
    refine aw_ret ?_
    exact retQ_r (σ := Int) (R := (fun y => [toV1 (.int .i64) y])) (ob := (True ∧ True)) (-1 : Int) (by kernel_rfl) ⟨trivial, trivial⟩ h
  · refine aw_block ?_
    refine aw_loop (σ := Int) (fun s => (⟨19, [(0, [], .v (.c (.pS sv))), (1, [], .v (.c (.fn fv1 cv1))), (7, [], .v (.c (.pI (sv.length : Int)))), (8, [], .v (.c (.pI s)))], []⟩ : St)) (fun s X => VC55_l1 sv F1 K s X) (s0 := (0 : Int)) (fun v8 X1 h => ?_) h
    have h : VC55_l1 sv F1 K v8 X1 := h
    unfold VC55_l1 at h
    refine aw_seq ?_
    refine aw_region ?_
    refine awl_runp 1 [0, 1, 7, 8, 9] [] (ob := (True ∧ True)) (st' := (⟨19, [(0, [], .v (.c (.pS sv))), (1, [], .v (.c (.fn fv1 cv1))), (7, [], .v (.c (.pI (sv.length : Int)))), (8, [], .v (.c (.pI v8))), (9, [], .v (.c (.pB (decide (v8 < (sv.length : Int))))))], []⟩ : St)) (by kernel_rfl) ⟨trivial, trivial⟩ ?_
    refine awl_nil ?_
    refine thenQ_n ?_
    refine aw_seq ?_
    refine aw_cond (b := (decide (v8 < (sv.length : Int)))) (by kernel_rfl) (fun hb => ?_) (fun hb => ?_)
    · have h := h.1 hb
      refine aw_skip ?_
      refine thenQ_n ?_
      refine aw_seq ?_
      refine aw_block ?_
      refine aw_seq ?_
      refine aw_region ?_
      refine awl_runp 2 [0, 1, 5, 7, 8] [] (ob := (True ∧ True ∧ True)) (st' := (⟨19, [(0, [], .v (.c (.pS sv))), (1, [], .v (.c (.fn fv1 cv1))), (5, [], .v (.c (.pI v8))), (7, [], .v (.c (.pI (sv.length : Int)))), (8, [], .v (.c (.pI v8)))], []⟩ : St)) (by kernel_rfl) ⟨trivial, trivial, trivial⟩ ?_
      refine awl_nil ?_
      refine thenQ_n ?_
      refine aw_seq ?_
      refine aw_region ?_
      obtain ⟨o1, h⟩ := h
      refine awl_runp 5 [0, 1, 5, 7, 8, 11, 15] [] (ob := (True ∧ True ∧ True ∧ inIdx v8 sv.length ∧ True ∧ True)) (st' := (⟨19, [(0, [], .v (.c (.pS sv))), (1, [], .v (.c (.fn fv1 cv1))), (5, [], .v (.c (.pI v8))), (7, [], .v (.c (.pI (sv.length : Int)))), (8, [], .v (.c (.pI v8))), (11, [], .v (.c (.fn fv1 cv1))), (15, [], .v (.c (.pI (sv.getD (v8).toNat (0 : Int)))))], []⟩ : St)) (by kernel_rfl) ⟨trivial, trivial, trivial, o1, trivial, trivial⟩ ?_
      refine awl_callk (p := []) (l := [toV1 (.int .i64) (sv.getD (v8).toNat (0 : Int))]) false [.d (.int .i64)] [0, 1, 5, 7, 8, 16] [] (fun (ret16v : Bool) => ((ret16v = true → K v8) ∧ (ret16v = false → (InR (v8 + (1 : Int)) ∧ X1 (v8 + (1 : Int)))))) (fun ret16v => [toV1 .bool ret16v]) (fun ret16v => (⟨19, [(0, [], .v (.c (.pS sv))), (1, [], .v (.c (.fn fv1 cv1))), (5, [], .v (.c (.pI v8))), (7, [], .v (.c (.pI (sv.length : Int)))), (8, [], .v (.c (.pI v8))), (16, [], .v (.c (.pB ret16v)))], []⟩ : St)) (by kernel_rfl) rfl (by kernel_rfl) rfl (by kernel_rfl) hF1.1 (by kernel_rfl) (fun ret16v => by kernel_rfl) (fun e => by cases e) (fun hg => hF1.2 (sv.getD (v8).toNat (0 : Int)) _ h) (fun hg => noF hg) (fun ret16v h => ?_)
      have h : ((ret16v = true → K v8) ∧ (ret16v = false → (InR (v8 + (1 : Int)) ∧ X1 (v8 + (1 : Int))))) := h
      refine awl_nil ?_
      refine thenQ_n ?_
      refine aw_cond (b := ret16v) (by kernel_rfl) (fun hb => ?_) (fun hb => ?_)
      · have h := h.1 hb
        refine aw_seq ?_
        refine aw_region ?_
        refine awl_runp 2 [4] [] (ob := (True ∧ True ∧ True)) (st' := (⟨19, [(4, [], .v (.c (.pI v8)))], []⟩ : St)) (by kernel_rfl) ⟨trivial, trivial, trivial⟩ ?_
        refine awl_nil ?_
        refine thenQ_n ?_
        refine aw_ret ?_
        refine blockQ_r ?_
        refine thenQ_r ?_
        refine thenQ_r ?_
        refine blockQ_r ?_
        refine thenQ_r ?_
        exact retQ_r (σ := Int) (R := (fun y => [toV1 (.int .i64) y])) (ob := (True ∧ True)) v8 (by kernel_rfl) ⟨trivial, trivial⟩ h
      · have h := h.2 hb
        refine aw_skip ?_
        refine blockQ_n ?_
        refine thenQ_n ?_
        refine aw_region ?_
        obtain ⟨o1, h⟩ := h
        refine awl_runp 2 [0, 1, 7, 8] [] (ob := (InR (v8 + (1 : Int)) ∧ True ∧ True)) (st' := (⟨19, [(0, [], .v (.c (.pS sv))), (1, [], .v (.c (.fn fv1 cv1))), (7, [], .v (.c (.pI (sv.length : Int)))), (8, [], .v (.c (.pI (v8 + (1 : Int)))))], []⟩ : St)) (by kernel_rfl) ⟨o1, trivial, trivial⟩ ?_
        refine awl_nil ?_
        exact thenQ_n ⟨(v8 + (1 : Int)), rfl, h⟩
    · have h := h.2 hb
      refine aw_conv [.prune [] []] (st' := (⟨19, [], []⟩ : St)) (by kernel_rfl) ?_
      refine aw_exit ?_
      refine thenQ_x ?_
      refine thenQ_x ?_
      refine blockQ_hit ?_
      exact rest1 () h

-- slices.ContainsFunc[[]int,int]
def VC79 (sv : LI) (F1 : Int → (Bool → Prop) → Prop) (K : Bool → Prop) : Prop :=
  VC55 sv F1 (fun (ret7v : Int) => K (decide ((0 : Int) ≤ ret7v)))

set_option maxHeartbeats 4000000 in
theorem link79 (sv : LI) (fv1 : FuncId) (cv1 : List Dat) (F1 : Int → (Bool → Prop) → Prop) (hF1 : FnIs Try.prog fv1 cv1 (fun (x : Int) => [toV1 (.int .i64) x]) (fun (y : Bool) => [toV1 .bool y]) F1) (K : Bool → Prop) (h : VC79 sv F1 K) : ACalls Try.prog 79 [toV1 (.sl (.int .i64)) sv, .c (.fn fv1 cv1)] (fun res => ∃ y, res = (fun y => [toV1 .bool y]) y ∧ K y) := by
  refine acalls_of_aw [.bool] [.t 4] Try.func79 rfl rfl rfl ?_
  unfold VC79 at h
  refine aw_seq ?_
  refine aw_region ?_
  refine awl_runp 1 [0, 1] [] (ob := (True ∧ True)) (st' := (⟨9, [(0, [], .v (.c (.pS sv))), (1, [], .v (.c (.fn fv1 cv1)))], []⟩ : St)) (by kernel_rfl) ⟨trivial, trivial⟩ ?_
  refine awl_nil ?_
  refine thenQ_n ?_
  refine aw_seq ?_
  refine aw_region ?_
  refine awl_runp 2 [5, 6] [] (ob := (True ∧ True ∧ True)) (st' := (⟨9, [(5, [], .v (.c (.pS sv))), (6, [], .v (.c (.fn fv1 cv1)))], []⟩ : St)) (by kernel_rfl) ⟨trivial, trivial, trivial⟩ ?_
  refine awl_callk (p := []) (l := [toV1 (.sl (.int .i64)) sv, .c (.fn fv1 cv1)]) (cl := []) false [.d (.sl (.int .i64)), .fn] [7] [] (fun (ret7v : Int) => K (decide ((0 : Int) ≤ ret7v))) (fun ret7v => [toV1 (.int .i64) ret7v]) (fun ret7v => (⟨9, [(7, [], .v (.c (.pI ret7v)))], []⟩ : St)) (by kernel_rfl) rfl (by kernel_rfl) rfl (by kernel_rfl) Try.call55 (by kernel_rfl) (fun ret7v => by kernel_rfl) (fun e => by cases e) (fun hg => link55 sv fv1 cv1 F1 hF1 _ h) (fun hg => noF hg) (fun ret7v h => ?_)
  have h : K (decide ((0 : Int) ≤ ret7v)) := h
  refine awl_runp 2 [4] [] (ob := (True ∧ True ∧ True)) (st' := (⟨9, [(4, [], .v (.c (.pB (decide ((0 : Int) ≤ ret7v)))))], []⟩ : St)) (by kernel_rfl) ⟨trivial, trivial, trivial⟩ ?_
  refine awl_nil ?_
  refine thenQ_n ?_
  refine aw_ret ?_
  exact retQ_r (σ := Bool) (R := (fun y => [toV1 .bool y])) (ob := (True ∧ True)) (decide ((0 : Int) ≤ ret7v)) (by kernel_rfl) ⟨trivial, trivial⟩ h

-- coppicer/machine.Word
def VC40 (k : Int) (w : LI) (K : Int → Prop) : Prop :=
  (((decide ((12 : Int) < (w.length : Int))) = true → K (1 : Int)) ∧ ((decide ((12 : Int) < (w.length : Int))) = false → VC79 w (fun (x : Int) (K : Bool → Prop) => VC81 x k K) (fun (ret10v : Bool) => ((ret10v = true → K (2 : Int)) ∧ (ret10v = false → K (0 : Int))))))

set_option maxHeartbeats 4000000 in
theorem link40 (k : Int) (w : LI) (K : Int → Prop) (h : VC40 k w K) : ACalls Try.prog 40 [toV1 (.int .i64) k, toV1 (.sl (.int .i64)) w] (fun res => ∃ y, res = (fun y => [toV1 (.int .i64) y]) y ∧ K y) := by
  refine acalls_of_aw [(.int .i64)] [.t 4] Try.func40 rfl rfl rfl ?_
  unfold VC40 at h
  refine aw_seq ?_
  refine aw_region ?_
  refine awl_runp 2 [1, 2] [2] (ob := (True ∧ True ∧ True)) (st' := (⟨11, [(1, [], .v (.c (.pS w))), (2, [], .v (.c (.ptr 2 0)))], [(2, [], .box [.pI k])]⟩ : St)) (by kernel_rfl) ⟨trivial, trivial, trivial⟩ ?_
  refine awl_nil ?_
  refine thenQ_n ?_
  refine aw_seq ?_
  refine aw_seq ?_
  refine aw_region ?_
  refine awl_runp 3 [1, 2, 7] [2] (ob := (True ∧ True ∧ True ∧ True)) (st' := (⟨11, [(1, [], .v (.c (.pS w))), (2, [], .v (.c (.ptr 2 0))), (7, [], .v (.c (.pB (decide ((12 : Int) < (w.length : Int))))))], [(2, [], .box [.pI k])]⟩ : St)) (by kernel_rfl) ⟨trivial, trivial, trivial, trivial⟩ ?_
  refine awl_nil ?_
  refine thenQ_n ?_
  refine aw_cond (b := (decide ((12 : Int) < (w.length : Int)))) (by kernel_rfl) (fun hb => ?_) (fun hb => ?_)
  · have h := h.1 hb
    refine aw_seq ?_
    refine aw_region ?_
    refine awl_runp 1 [4] [] (ob := (True ∧ True)) (st' := (⟨11, [(4, [], .v (.c (.pI (1 : Int))))], []⟩ : St)) (by kernel_rfl) ⟨trivial, trivial⟩ ?_
    refine awl_nil ?_
    refine thenQ_n ?_
    refine aw_ret ?_
    refine thenQ_r ?_
    exact retQ_r (σ := Int) (R := (fun y => [toV1 (.int .i64) y])) (ob := (True ∧ True)) (1 : Int) (by kernel_rfl) ⟨trivial, trivial⟩ h
  · have h := h.2 hb
    refine aw_skip ?_
    refine thenQ_n ?_
    refine aw_seq ?_
    refine aw_seq ?_
    refine aw_region ?_
    refine awl_runp 1 [2, 8] [2] (ob := (True ∧ True)) (st' := (⟨11, [(2, [], .v (.c (.ptr 2 0))), (8, [], .v (.c (.pS w)))], [(2, [], .box [.pI k])]⟩ : St)) (by kernel_rfl) ⟨trivial, trivial⟩ ?_
    refine awl_conv [.freezeB 2 (.int .i64)] (st' := (⟨11, [(2, [], .v (.c (.ad (.int .i64) k))), (8, [], .v (.c (.pS w)))], []⟩ : St)) (by kernel_rfl) ?_
    refine awl_runp 1 [8, 9] [] (ob := (True ∧ True)) (st' := (⟨11, [(8, [], .v (.c (.pS w))), (9, [], .v (.c (.fn 81 [(⟨(.int .i64), k⟩ : Dat)])))], []⟩ : St)) (by kernel_rfl) ⟨trivial, trivial⟩ ?_
    refine awl_callk (p := []) (l := [toV1 (.sl (.int .i64)) w, .c (.fn 81 [(⟨(.int .i64), k⟩ : Dat)])]) (cl := []) false [.d (.sl (.int .i64)), .fn] [10] [] (fun (ret10v : Bool) => ((ret10v = true → K (2 : Int)) ∧ (ret10v = false → K (0 : Int)))) (fun ret10v => [toV1 .bool ret10v]) (fun ret10v => (⟨11, [(10, [], .v (.c (.pB ret10v)))], []⟩ : St)) (by kernel_rfl) rfl (by kernel_rfl) rfl (by kernel_rfl) Try.call79 (by kernel_rfl) (fun ret10v => by kernel_rfl) (fun e => by cases e) (fun hg => link79 w 81 [(⟨(.int .i64), k⟩ : Dat)] (fun (x : Int) (K : Bool → Prop) => VC81 x k K) ⟨Try.call81, fun x K h => link81 x k K h⟩ _ h) (fun hg => noF hg) (fun ret10v h => ?_)
    have h : ((ret10v = true → K (2 : Int)) ∧ (ret10v = false → K (0 : Int))) := h
    refine awl_nil ?_
    refine thenQ_n ?_
    refine aw_cond (b := ret10v) (by kernel_rfl) (fun hb => ?_) (fun hb => ?_)
    · have h := h.1 hb
      refine aw_seq ?_
      refine aw_region ?_
      refine awl_runp 1 [4] [] (ob := (True ∧ True)) (st' := (⟨11, [(4, [], .v (.c (.pI (2 : Int))))], []⟩ : St)) (by kernel_rfl) ⟨trivial, trivial⟩ ?_
      refine awl_nil ?_
      refine thenQ_n ?_
      refine aw_ret ?_
      refine thenQ_r ?_
      exact retQ_r (σ := Int) (R := (fun y => [toV1 (.int .i64) y])) (ob := (True ∧ True)) (2 : Int) (by kernel_rfl) ⟨trivial, trivial⟩ h
    · have h := h.2 hb
      refine aw_skip ?_
      refine thenQ_n ?_
      refine aw_seq ?_
      refine aw_region ?_
      refine awl_runp 1 [4] [] (ob := (True ∧ True)) (st' := (⟨11, [(4, [], .v (.c (.pI (0 : Int))))], []⟩ : St)) (by kernel_rfl) ⟨trivial, trivial⟩ ?_
      refine awl_nil ?_
      refine thenQ_n ?_
      refine aw_ret ?_
      exact retQ_r (σ := Int) (R := (fun y => [toV1 (.int .i64) y])) (ob := (True ∧ True)) (0 : Int) (by kernel_rfl) ⟨trivial, trivial⟩ h

-- coppicer/machine.Has
def VC44 (setv : Int) (n : Int) (K : Bool → Prop) : Prop :=
  ((0 ≤ setv ∧ 0 ≤ n) ∧ K (decide ((bAnd .u32 (bShr .u32 setv n) (1 : Int)) = (1 : Int))))

set_option maxHeartbeats 4000000 in
theorem link44 (setv : Int) (n : Int) (K : Bool → Prop) (h : VC44 setv n K) : ACalls Try.prog 44 [toV1 (.int .u32) setv, toV1 (.int .i64) n] (fun res => ∃ y, res = (fun y => [toV1 .bool y]) y ∧ K y) := by
  refine acalls_of_aw [.bool] [.t 4] Try.func44 rfl rfl rfl ?_
  unfold VC44 at h
  refine aw_seq ?_
  refine aw_region ?_
  refine awl_runp 1 [0, 1] [] (ob := (True ∧ True)) (st' := (⟨10, [(0, [], .v (.c (.p (.int .u32) setv))), (1, [], .v (.c (.pI n)))], []⟩ : St)) (by kernel_rfl) ⟨trivial, trivial⟩ ?_
  refine awl_nil ?_
  refine thenQ_n ?_
  refine aw_seq ?_
  refine aw_region ?_
  obtain ⟨o1, h⟩ := h
  refine awl_runp 6 [4] [] (ob := (True ∧ True ∧ (0 ≤ setv ∧ 0 ≤ n) ∧ True ∧ True ∧ True ∧ True)) (st' := (⟨10, [(4, [], .v (.c (.pB (decide ((bAnd .u32 (bShr .u32 setv n) (1 : Int)) = (1 : Int))))))], []⟩ : St)) (by kernel_rfl) ⟨trivial, trivial, o1, trivial, trivial, trivial, trivial⟩ ?_
  refine awl_nil ?_
  refine thenQ_n ?_
  refine aw_ret ?_
  exact retQ_r (σ := Bool) (R := (fun y => [toV1 .bool y])) (ob := (True ∧ True)) (decide ((bAnd .u32 (bShr .u32 setv n) (1 : Int)) = (1 : Int))) (by kernel_rfl) ⟨trivial, trivial⟩ h

-- coppicer/sentence.match$1
def VC86_k1 (K : LI → Prop) (out : LI) : Prop :=
  K out

def VC86_k2 (v12 : Int) (X1 : Int × LI → Prop) (out2 : LI) : Prop :=
  (InR (v12 + (1 : Int)) ∧ X1 ((v12 + (1 : Int)), out2))

def VC86_k3 (v16 : Int) (X2 : Int × LI → Prop) (out3 : LI) : Prop :=
  (InR (v16 + (1 : Int)) ∧ X2 ((v16 + (1 : Int)), out3))

def VC86_l2 (a : LI) (b : LI) (a2 : Int) (v12 : Int) (X1 : Int × LI → Prop) (v16 : Int) (out2 : LI) (X2 : Int × LI → Prop) : Prop :=
  (((decide (v16 < a2)) = true → (inIdx v12 a.length ∧ VC44 (a.getD (v12).toNat (0 : Int)) v16 (fun (ret24v : Bool) => ((ret24v = true → (inIdx v12 out2.length ∧ inIdx v16 b.length ∧ (inIdx v12 out2.length ∧ VC86_k3 v16 X2 (out2.set ((v12).toNat) (bOr .u32 (out2.getD ((v12).toNat) (0 : Int)) (b.getD (v16).toNat (0 : Int))))))) ∧ (ret24v = false → VC86_k3 v16 X2 out2))))) ∧ ((decide (v16 < a2)) = false → VC86_k2 v12 X1 out2))

def VC86_l1 (a : LI) (b : LI) (a2 : Int) (K : LI → Prop) (v12 : Int) (out : LI) (X1 : Int × LI → Prop) : Prop :=
  (((decide (v12 < a2)) = true → Loop (σ := Int × LI) (fun s X => VC86_l2 a b a2 v12 X1 s.1 s.2 X) ((0 : Int), out)) ∧ ((decide (v12 < a2)) = false → VC86_k1 K out))

def VC86 (a : LI) (b : LI) (a2 : Int) (K : LI → Prop) : Prop :=
  (room a2 ∧ Loop (σ := Int × LI) (fun s X => VC86_l1 a b a2 K s.1 s.2 X) ((0 : Int), (List.replicate (a2).toNat (0 : Int))))

set_option maxHeartbeats 4000000 in
theorem link86 (a : LI) (b : LI) (a2 : Int) (K : LI → Prop) (h : VC86 a b a2 K) : ACallsO Try.prog 86 [toV1 (.sl (.int .u32)) a, toV1 (.sl (.int .u32)) b, .c (.ad (.int .i64) a2)] 39 (.int .u32) K := by
  refine acallsO_of_aw 5 Try.func86 rfl rfl rfl ?_
  unfold VC86 at h
  refine aw_seq ?_
  refine aw_region ?_
  refine awl_runp 1 [0, 1, 2] [] (ob := (True ∧ True)) (st' := (⟨38, [(0, [], .v (.c (.p (.sl (.int .u32)) a))), (1, [], .v (.c (.p (.sl (.int .u32)) b))), (2, [], .v (.c (.ad (.int .i64) a2)))], []⟩ : St)) (by kernel_rfl) ⟨trivial, trivial⟩ ?_
  refine awl_nil ?_
  refine thenQ_n ?_
  refine aw_seq ?_
  refine aw_region ?_
  obtain ⟨o1, h⟩ := h
  refine awl_runp 3 [0, 1, 2, 6] [10] (ob := (True ∧ room a2 ∧ True ∧ True)) (st' := (⟨38, [(0, [], .v (.c (.p (.sl (.int .u32)) a))), (1, [], .v (.c (.p (.sl (.int .u32)) b))), (2, [], .v (.c (.ad (.int .i64) a2))), (6, [], .v (.c (.own 10)))], [(10, [], .arr 39 (.int .u32) (List.replicate (a2).toNat (0 : Int)))]⟩ : St)) (by kernel_rfl) ⟨trivial, o1, trivial, trivial⟩ ?_
  refine awl_nil ?_
  refine thenQ_n ?_
  refine aw_seq ?_
  refine aw_seq ?_
  refine aw_region ?_
  refine awl_runp 2 [0, 1, 2, 6, 11, 12] [10] (ob := (True ∧ True ∧ True)) (st' := (⟨38, [(0, [], .v (.c (.p (.sl (.int .u32)) a))), (1, [], .v (.c (.p (.sl (.int .u32)) b))), (2, [], .v (.c (.ad (.int .i64) a2))), (6, [], .v (.c (.own 10))), (11, [], .v (.c (.pI a2))), (12, [], .v (.c (.pI (0 : Int))))], [(10, [], .arr 39 (.int .u32) (List.replicate (a2).toNat (0 : Int)))]⟩ : St)) (by kernel_rfl) ⟨trivial, trivial, trivial⟩ ?_
  refine awl_nil ?_
  refine thenQ_n ?_
  refine withJoin (σ := LI) (fun s => (⟨38, [(6, [], .v (.c (.own 10)))], [(10, [], .arr 39 (.int .u32) s)]⟩ : St)) (fun s => VC86_k1 K s) (fun out h => ?_) (fun rest1 => ?_)
  · have h : VC86_k1 K out := h
    unfold VC86_k1 at h
    refine thenQ_n ?_
    refine aw_seq ?_
    refine aw_region ?_
    refine awl_runp 2 [5] [10] (ob := (True ∧ True ∧ True)) (st' := (⟨38, [(5, [], .v (.c (.own 10)))], [(10, [], .arr 39 (.int .u32) out)]⟩ : St)) (by kernel_rfl) ⟨trivial, trivial, trivial⟩ ?_
    refine awl_nil ?_
    refine thenQ_n ?_
    refine aw_ret ?_
    exact ⟨10, _, by kernel_rfl, by kernel_rfl, h⟩
  · refine aw_block ?_
    refine aw_loop (σ := Int × LI) (fun s => (⟨38, [(0, [], .v (.c (.p (.sl (.int .u32)) a))), (1, [], .v (.c (.p (.sl (.int .u32)) b))), (2, [], .v (.c (.ad (.int .i64) a2))), (6, [], .v (.c (.own 10))), (11, [], .v (.c (.pI a2))), (12, [], .v (.c (.pI s.1)))], [(10, [], .arr 39 (.int .u32) s.2)]⟩ : St)) (fun s X => VC86_l1 a b a2 K s.1 s.2 X) (s0 := ((0 : Int), (List.replicate (a2).toNat (0 : Int)))) (fun s X1 h => ?_) h
    obtain ⟨v12, out⟩ := s
    have h : VC86_l1 a b a2 K v12 out X1 := h
    unfold VC86_l1 at h
    refine aw_seq ?_
    refine aw_region ?_
    refine awl_runp 1 [0, 1, 2, 6, 11, 12, 13] [10] (ob := (True ∧ True)) (st' := (⟨38, [(0, [], .v (.c (.p (.sl (.int .u32)) a))), (1, [], .v (.c (.p (.sl (.int .u32)) b))), (2, [], .v (.c (.ad (.int .i64) a2))), (6, [], .v (.c (.own 10))), (11, [], .v (.c (.pI a2))), (12, [], .v (.c (.pI v12))), (13, [], .v (.c (.pB (decide (v12 < a2)))))], [(10, [], .arr 39 (.int .u32) out)]⟩ : St)) (by kernel_rfl) ⟨trivial, trivial⟩ ?_
    refine awl_nil ?_
    refine thenQ_n ?_
    refine aw_seq ?_
    refine aw_cond (b := (decide (v12 < a2))) (by kernel_rfl) (fun hb => ?_) (fun hb => ?_)
    · have h := h.1 hb
      refine aw_skip ?_
      refine thenQ_n ?_
      refine aw_seq ?_
      refine aw_block ?_
      refine aw_seq ?_
      refine aw_region ?_
      refine awl_runp 2 [0, 1, 2, 6, 7, 11, 12] [10] (ob := (True ∧ True ∧ True)) (st' := (⟨38, [(0, [], .v (.c (.p (.sl (.int .u32)) a))), (1, [], .v (.c (.p (.sl (.int .u32)) b))), (2, [], .v (.c (.ad (.int .i64) a2))), (6, [], .v (.c (.own 10))), (7, [], .v (.c (.pI v12))), (11, [], .v (.c (.pI a2))), (12, [], .v (.c (.pI v12)))], [(10, [], .arr 39 (.int .u32) out)]⟩ : St)) (by kernel_rfl) ⟨trivial, trivial, trivial⟩ ?_
      refine awl_nil ?_
      refine thenQ_n ?_
      refine aw_seq ?_
      refine aw_region ?_
      refine awl_runp 2 [0, 1, 2, 6, 7, 11, 12, 15, 16] [10] (ob := (True ∧ True ∧ True)) (st' := (⟨38, [(0, [], .v (.c (.p (.sl (.int .u32)) a))), (1, [], .v (.c (.p (.sl (.int .u32)) b))), (2, [], .v (.c (.ad (.int .i64) a2))), (6, [], .v (.c (.own 10))), (7, [], .v (.c (.pI v12))), (11, [], .v (.c (.pI a2))), (12, [], .v (.c (.pI v12))), (15, [], .v (.c (.pI a2))), (16, [], .v (.c (.pI (0 : Int))))], [(10, [], .arr 39 (.int .u32) out)]⟩ : St)) (by kernel_rfl) ⟨trivial, trivial, trivial⟩ ?_
      refine awl_nil ?_
      refine thenQ_n ?_
      refine withJoin (σ := LI) (fun s => (⟨38, [(0, [], .v (.c (.p (.sl (.int .u32)) a))), (1, [], .v (.c (.p (.sl (.int .u32)) b))), (2, [], .v (.c (.ad (.int .i64) a2))), (6, [], .v (.c (.own 10))), (11, [], .v (.c (.pI a2))), (12, [], .v (.c (.pI v12)))], [(10, [], .arr 39 (.int .u32) s)]⟩ : St)) (fun s => VC86_k2 v12 X1 s) (fun out2 h => ?_) (fun rest2 => ?_)
      · have h : VC86_k2 v12 X1 out2 := h
        unfold VC86_k2 at h
        refine blockQ_n ?_
        refine thenQ_n ?_
        refine aw_region ?_
        obtain ⟨o1, h⟩ := h
        refine awl_runp 2 [0, 1, 2, 6, 11, 12] [10] (ob := (InR (v12 + (1 : Int)) ∧ True ∧ True)) (st' := (⟨38, [(0, [], .v (.c (.p (.sl (.int .u32)) a))), (1, [], .v (.c (.p (.sl (.int .u32)) b))), (2, [], .v (.c (.ad (.int .i64) a2))), (6, [], .v (.c (.own 10))), (11, [], .v (.c (.pI a2))), (12, [], .v (.c (.pI (v12 + (1 : Int)))))], [(10, [], .arr 39 (.int .u32) out2)]⟩ : St)) (by kernel_rfl) ⟨o1, trivial, trivial⟩ ?_
        refine awl_nil ?_
        exact thenQ_n ⟨((v12 + (1 : Int)), out2), rfl, h⟩
      · refine aw_block ?_
        refine aw_loop (σ := Int × LI) (fun s => (⟨38, [(0, [], .v (.c (.p (.sl (.int .u32)) a))), (1, [], .v (.c (.p (.sl (.int .u32)) b))), (2, [], .v (.c (.ad (.int .i64) a2))), (6, [], .v (.c (.own 10))), (7, [], .v (.c (.pI v12))), (11, [], .v (.c (.pI a2))), (12, [], .v (.c (.pI v12))), (15, [], .v (.c (.pI a2))), (16, [], .v (.c (.pI s.1)))], [(10, [], .arr 39 (.int .u32) s.2)]⟩ : St)) (fun s X => VC86_l2 a b a2 v12 X1 s.1 s.2 X) (s0 := ((0 : Int), out)) (fun s X2 h => ?_) h
        obtain ⟨v16, out2⟩ := s
        have h : VC86_l2 a b a2 v12 X1 v16 out2 X2 := h
        unfold VC86_l2 at h
        refine aw_seq ?_
        refine aw_region ?_
        refine awl_runp 1 [0, 1, 2, 6, 7, 11, 12, 15, 16, 17] [10] (ob := (True ∧ True)) (st' := (⟨38, [(0, [], .v (.c (.p (.sl (.int .u32)) a))), (1, [], .v (.c (.p (.sl (.int .u32)) b))), (2, [], .v (.c (.ad (.int .i64) a2))), (6, [], .v (.c (.own 10))), (7, [], .v (.c (.pI v12))), (11, [], .v (.c (.pI a2))), (12, [], .v (.c (.pI v12))), (15, [], .v (.c (.pI a2))), (16, [], .v (.c (.pI v16))), (17, [], .v (.c (.pB (decide (v16 < a2)))))], [(10, [], .arr 39 (.int .u32) out2)]⟩ : St)) (by kernel_rfl) ⟨trivial, trivial⟩ ?_
        refine awl_nil ?_
        refine thenQ_n ?_
        refine aw_seq ?_
        refine aw_cond (b := (decide (v16 < a2))) (by kernel_rfl) (fun hb => ?_) (fun hb => ?_)
        · have h := h.1 hb
          refine aw_skip ?_
          refine thenQ_n ?_
          refine aw_seq ?_
          refine aw_block ?_
          refine aw_seq ?_
          refine aw_region ?_
          refine awl_runp 2 [0, 1, 2, 6, 7, 8, 11, 12, 15, 16] [10] (ob := (True ∧ True ∧ True)) (st' := (⟨38, [(0, [], .v (.c (.p (.sl (.int .u32)) a))), (1, [], .v (.c (.p (.sl (.int .u32)) b))), (2, [], .v (.c (.ad (.int .i64) a2))), (6, [], .v (.c (.own 10))), (7, [], .v (.c (.pI v12))), (8, [], .v (.c (.pI v16))), (11, [], .v (.c (.pI a2))), (12, [], .v (.c (.pI v12))), (15, [], .v (.c (.pI a2))), (16, [], .v (.c (.pI v16)))], [(10, [], .arr 39 (.int .u32) out2)]⟩ : St)) (by kernel_rfl) ⟨trivial, trivial, trivial⟩ ?_
          refine awl_nil ?_
          refine thenQ_n ?_
          refine aw_seq ?_
          refine aw_region ?_
          obtain ⟨o1, h⟩ := h
          refine awl_runp 5 [0, 1, 2, 6, 7, 8, 11, 12, 15, 16, 22, 23] [10] (ob := (True ∧ True ∧ inIdx v12 a.length ∧ True ∧ True ∧ True)) (st' := (⟨38, [(0, [], .v (.c (.p (.sl (.int .u32)) a))), (1, [], .v (.c (.p (.sl (.int .u32)) b))), (2, [], .v (.c (.ad (.int .i64) a2))), (6, [], .v (.c (.own 10))), (7, [], .v (.c (.pI v12))), (8, [], .v (.c (.pI v16))), (11, [], .v (.c (.pI a2))), (12, [], .v (.c (.pI v12))), (15, [], .v (.c (.pI a2))), (16, [], .v (.c (.pI v16))), (22, [], .v (.c (.p (.int .u32) (a.getD (v12).toNat (0 : Int))))), (23, [], .v (.c (.pI v16)))], [(10, [], .arr 39 (.int .u32) out2)]⟩ : St)) (by kernel_rfl) ⟨trivial, trivial, o1, trivial, trivial, trivial⟩ ?_
          refine awl_callk (p := []) (l := [toV1 (.int .u32) (a.getD (v12).toNat (0 : Int)), toV1 (.int .i64) v16]) (cl := []) false [.d (.int .u32), .d (.int .i64)] [0, 1, 2, 6, 7, 8, 11, 12, 15, 16, 24] [10] (fun (ret24v : Bool) => ((ret24v = true → (inIdx v12 out2.length ∧ inIdx v16 b.length ∧ (inIdx v12 out2.length ∧ VC86_k3 v16 X2 (out2.set ((v12).toNat) (bOr .u32 (out2.getD ((v12).toNat) (0 : Int)) (b.getD (v16).toNat (0 : Int))))))) ∧ (ret24v = false → VC86_k3 v16 X2 out2))) (fun ret24v => [toV1 .bool ret24v]) (fun ret24v => (⟨38, [(0, [], .v (.c (.p (.sl (.int .u32)) a))), (1, [], .v (.c (.p (.sl (.int .u32)) b))), (2, [], .v (.c (.ad (.int .i64) a2))), (6, [], .v (.c (.own 10))), (7, [], .v (.c (.pI v12))), (8, [], .v (.c (.pI v16))), (11, [], .v (.c (.pI a2))), (12, [], .v (.c (.pI v12))), (15, [], .v (.c (.pI a2))), (16, [], .v (.c (.pI v16))), (24, [], .v (.c (.pB ret24v)))], [(10, [], .arr 39 (.int .u32) out2)]⟩ : St)) (by kernel_rfl) rfl (by kernel_rfl) rfl (by kernel_rfl) Try.call44 (by kernel_rfl) (fun ret24v => by kernel_rfl) (fun e => by cases e) (fun hg => link44 (a.getD (v12).toNat (0 : Int)) v16 _ h) (fun hg => noF hg) (fun ret24v h => ?_)
          have h : ((ret24v = true → (inIdx v12 out2.length ∧ inIdx v16 b.length ∧ (inIdx v12 out2.length ∧ VC86_k3 v16 X2 (out2.set ((v12).toNat) (bOr .u32 (out2.getD ((v12).toNat) (0 : Int)) (b.getD (v16).toNat (0 : Int))))))) ∧ (ret24v = false → VC86_k3 v16 X2 out2)) := h
          refine awl_nil ?_
          refine thenQ_n ?_
          refine withJoin (σ := LI) (fun s => (⟨38, [(0, [], .v (.c (.p (.sl (.int .u32)) a))), (1, [], .v (.c (.p (.sl (.int .u32)) b))), (2, [], .v (.c (.ad (.int .i64) a2))), (6, [], .v (.c (.own 10))), (7, [], .v (.c (.pI v12))), (11, [], .v (.c (.pI a2))), (12, [], .v (.c (.pI v12))), (15, [], .v (.c (.pI a2))), (16, [], .v (.c (.pI v16)))], [(10, [], .arr 39 (.int .u32) s)]⟩ : St)) (fun s => VC86_k3 v16 X2 s) (fun out3 h => ?_) (fun rest3 => ?_)
          · have h : VC86_k3 v16 X2 out3 := h
            unfold VC86_k3 at h
            refine blockQ_n ?_
            refine thenQ_n ?_
            refine aw_region ?_
            obtain ⟨o1, h⟩ := h
            refine awl_runp 2 [0, 1, 2, 6, 7, 11, 12, 15, 16] [10] (ob := (InR (v16 + (1 : Int)) ∧ True ∧ True)) (st' := (⟨38, [(0, [], .v (.c (.p (.sl (.int .u32)) a))), (1, [], .v (.c (.p (.sl (.int .u32)) b))), (2, [], .v (.c (.ad (.int .i64) a2))), (6, [], .v (.c (.own 10))), (7, [], .v (.c (.pI v12))), (11, [], .v (.c (.pI a2))), (12, [], .v (.c (.pI v12))), (15, [], .v (.c (.pI a2))), (16, [], .v (.c (.pI (v16 + (1 : Int)))))], [(10, [], .arr 39 (.int .u32) out3)]⟩ : St)) (by kernel_rfl) ⟨o1, trivial, trivial⟩ ?_
            refine awl_nil ?_
            exact thenQ_n ⟨((v16 + (1 : Int)), out3), rfl, h⟩
          · refine aw_cond (b := ret24v) (by kernel_rfl) (fun hb => ?_) (fun hb => ?_)
            · have h := h.1 hb
              refine awd_begin [10] (by kernel_rfl) ?_
              obtain ⟨o1, o2, h⟩ := h
              refine awd_runp (by kernel_rfl) [0, 1, 2, 4, 5, 6, 7] [0, 1, 2, 6, 7, 11, 12, 15, 16, 25, 26, 27, 32] [10] (ob := (True ∧ True ∧ inIdx v12 out2.length ∧ True ∧ True ∧ inIdx v16 b.length ∧ True ∧ True)) (done' := [7, 6, 5, 4, 2, 1, 0]) (st' := (⟨38, [(0, [], .v (.c (.p (.sl (.int .u32)) a))), (1, [], .v (.c (.p (.sl (.int .u32)) b))), (2, [], .v (.c (.ad (.int .i64) a2))), (6, [], .v (.c (.own 10))), (7, [], .v (.c (.pI v12))), (11, [], .v (.c (.pI a2))), (12, [], .v (.c (.pI v12))), (15, [], .v (.c (.pI a2))), (16, [], .v (.c (.pI v16))), (25, [], .v (.c (.own 10))), (26, [], .v (.c (.pI v12))), (27, [], .v (.c (.el 10 ((v12).toNat) 1))), (32, [], .v (.c (.p (.int .u32) (b.getD (v16).toNat (0 : Int)))))], [(10, [], .arr 39 (.int .u32) out2)]⟩ : St)) (by kernel_rfl) ⟨trivial, trivial, o1, trivial, trivial, o2, trivial, trivial⟩ ?_
              refine awd_one (i := 3) (by kernel_rfl) ?_
              refine adop_stepp [0, 1, 2, 6, 7, 11, 12, 15, 16, 25, 26, 28, 32] [10] (ob := True) (st' := (⟨38, [(0, [], .v (.c (.p (.sl (.int .u32)) a))), (1, [], .v (.c (.p (.sl (.int .u32)) b))), (2, [], .v (.c (.ad (.int .i64) a2))), (6, [], .v (.c (.own 10))), (7, [], .v (.c (.pI v12))), (11, [], .v (.c (.pI a2))), (12, [], .v (.c (.pI v12))), (15, [], .v (.c (.pI a2))), (16, [], .v (.c (.pI v16))), (25, [], .v (.c (.own 10))), (26, [], .v (.c (.pI v12))), (28, [], .v (.c (.p (.int .u32) (out2.getD ((v12).toNat) (0 : Int))))), (32, [], .v (.c (.p (.int .u32) (b.getD (v16).toNat (0 : Int)))))], [(10, [], .arr 39 (.int .u32) out2)]⟩ : St)) rfl (by kernel_rfl) trivial ?_
              obtain ⟨o1, h⟩ := h
              refine awd_runp (by kernel_rfl) [8, 9] [0, 1, 2, 6, 7, 11, 12, 15, 16, 33, 34] [10] (ob := (True ∧ inIdx v12 out2.length ∧ True)) (done' := [9, 8, 3, 7, 6, 5, 4, 2, 1, 0]) (st' := (⟨38, [(0, [], .v (.c (.p (.sl (.int .u32)) a))), (1, [], .v (.c (.p (.sl (.int .u32)) b))), (2, [], .v (.c (.ad (.int .i64) a2))), (6, [], .v (.c (.own 10))), (7, [], .v (.c (.pI v12))), (11, [], .v (.c (.pI a2))), (12, [], .v (.c (.pI v12))), (15, [], .v (.c (.pI a2))), (16, [], .v (.c (.pI v16))), (33, [], .v (.c (.p (.int .u32) (bOr .u32 (out2.getD ((v12).toNat) (0 : Int)) (b.getD (v16).toNat (0 : Int)))))), (34, [], .v (.c (.el 10 ((v12).toNat) 1)))], [(10, [], .arr 39 (.int .u32) out2)]⟩ : St)) (by kernel_rfl) ⟨trivial, o1, trivial⟩ ?_
              refine awd_one (i := 10) (by kernel_rfl) ?_
              refine adop_stepp [0, 1, 2, 6, 7, 11, 12, 15, 16] [10] (ob := True) (st' := (⟨38, [(0, [], .v (.c (.p (.sl (.int .u32)) a))), (1, [], .v (.c (.p (.sl (.int .u32)) b))), (2, [], .v (.c (.ad (.int .i64) a2))), (6, [], .v (.c (.own 10))), (7, [], .v (.c (.pI v12))), (11, [], .v (.c (.pI a2))), (12, [], .v (.c (.pI v12))), (15, [], .v (.c (.pI a2))), (16, [], .v (.c (.pI v16)))], [(10, [], .arr 39 (.int .u32) (out2.set ((v12).toNat) (bOr .u32 (out2.getD ((v12).toNat) (0 : Int)) (b.getD (v16).toNat (0 : Int)))))]⟩ : St)) rfl (by kernel_rfl) trivial ?_
              refine awd_done (by kernel_rfl) ?_
              exact rest3 (out2.set ((v12).toNat) (bOr .u32 (out2.getD ((v12).toNat) (0 : Int)) (b.getD (v16).toNat (0 : Int)))) h
            · have h := h.2 hb
              refine aw_conv [.prune [0, 1, 2, 6, 7, 11, 12, 15, 16] [10]] (st' := (⟨38, [(0, [], .v (.c (.p (.sl (.int .u32)) a))), (1, [], .v (.c (.p (.sl (.int .u32)) b))), (2, [], .v (.c (.ad (.int .i64) a2))), (6, [], .v (.c (.own 10))), (7, [], .v (.c (.pI v12))), (11, [], .v (.c (.pI a2))), (12, [], .v (.c (.pI v12))), (15, [], .v (.c (.pI a2))), (16, [], .v (.c (.pI v16)))], [(10, [], .arr 39 (.int .u32) out2)]⟩ : St)) (by kernel_rfl) ?_
              refine aw_skip ?_
              exact rest3 out2 h
        · have h := h.2 hb
          refine aw_conv [.prune [0, 1, 2, 6, 11, 12] [10]] (st' := (⟨38, [(0, [], .v (.c (.p (.sl (.int .u32)) a))), (1, [], .v (.c (.p (.sl (.int .u32)) b))), (2, [], .v (.c (.ad (.int .i64) a2))), (6, [], .v (.c (.own 10))), (11, [], .v (.c (.pI a2))), (12, [], .v (.c (.pI v12)))], [(10, [], .arr 39 (.int .u32) out2)]⟩ : St)) (by kernel_rfl) ?_
          refine aw_exit ?_
          refine thenQ_x ?_
          refine thenQ_x ?_
          refine blockQ_hit ?_
          exact rest2 out2 h
    · have h := h.2 hb
      refine aw_conv [.prune [6] [10]] (st' := (⟨38, [(6, [], .v (.c (.own 10)))], [(10, [], .arr 39 (.int .u32) out)]⟩ : St)) (by kernel_rfl) ?_
      refine aw_exit ?_
      refine thenQ_x ?_
      refine thenQ_x ?_
      refine blockQ_hit ?_
      exact rest1 out h

-- coppicer/sentence.match
def VC46_k1 (K : LI → Prop) (all : LL) : Prop :=
  (InR ((all.length : Int) - (1 : Int)) ∧ inIdx ((all.length : Int) - (1 : Int)) all.length ∧ K (all.getD ((((all.length : Int) - (1 : Int))).toNat) ([] : LI)))

def VC46_k2 (v24 : Int) (all : LL) (X1 : Int × LL → Prop) (rv : LI) : Prop :=
  (roomN (all.length + [rv].length) ∧ (InR (v24 + (1 : Int)) ∧ X1 ((v24 + (1 : Int)), (all ++ [rv]))))

def VC46_k3 (v24 : Int) (all : LL) (X1 : Int × LL → Prop) (rv : LI) : Prop :=
  VC46_k2 v24 all X1 rv

def VC46_l2 (w : LI) (v24 : Int) (all : LL) (X1 : Int × LL → Prop) (v35 : Int) (rv : LI) (X2 : Int × LI → Prop) : Prop :=
  (((decide (v35 < ((w.length : Int) + (1 : Int)))) = true → (0 ≤ v35 ∧ inIdx v35 rv.length ∧ (InR (v35 + (1 : Int)) ∧ X2 ((v35 + (1 : Int)), (rv.set ((v35).toNat) (bShl .u32 (1 : Int) v35)))))) ∧ ((decide (v35 < ((w.length : Int) + (1 : Int)))) = false → VC46_k3 v24 all X1 rv))

def VC46_k4 (v24 : Int) (all : LL) (X1 : Int × LL → Prop) (rv : LI) : Prop :=
  VC46_k2 v24 all X1 rv

def VC46_k5 (v24 : Int) (all : LL) (X1 : Int × LL → Prop) (rv : LI) : Prop :=
  VC46_k4 v24 all X1 rv

def VC46_k6 (v48 : Int) (X3 : Int × LI → Prop) (rv2 : LI) : Prop :=
  (InR (v48 + (1 : Int)) ∧ X3 ((v48 + (1 : Int)), rv2))

def VC46_l3 (l : LN) (w : LI) (v24 : Int) (all : LL) (X1 : Int × LL → Prop) (v48 : Int) (rv : LI) (X3 : Int × LI → Prop) : Prop :=
  (((decide (v48 < (w.length : Int))) = true → (inIdx v48 w.length ∧ (((decide ((w.getD (v48).toNat (0 : Int)) = (l.getD (v24).toNat z3).2.1)) = true → (InR (v48 + (1 : Int)) ∧ 0 ≤ (v48 + (1 : Int)) ∧ inIdx v48 rv.length ∧ VC46_k6 v48 X3 (rv.set ((v48).toNat) (bShl .u32 (1 : Int) (v48 + (1 : Int)))))) ∧ ((decide ((w.getD (v48).toNat (0 : Int)) = (l.getD (v24).toNat z3).2.1)) = false → VC46_k6 v48 X3 rv)))) ∧ ((decide (v48 < (w.length : Int))) = false → VC46_k5 v24 all X1 rv))

def VC46_k7 (v24 : Int) (all : LL) (X1 : Int × LL → Prop) (rv : LI) : Prop :=
  VC46_k4 v24 all X1 rv

def VC46_k8 (v24 : Int) (all : LL) (X1 : Int × LL → Prop) (rv : LI) : Prop :=
  VC46_k7 v24 all X1 rv

def VC46_k9 (v24 : Int) (all : LL) (X1 : Int × LL → Prop) (rv : LI) : Prop :=
  VC46_k8 v24 all X1 rv

def VC46_l4 (l : LN) (w : LI) (v24 : Int) (all : LL) (X1 : Int × LL → Prop) (v81 : Int) (rv : LI) (X4 : Int × LI → Prop) : Prop :=
  (((decide (v81 < ((w.length : Int) + (1 : Int)))) = true → (inIdx ((l.getD (v24).toNat z3).2.1) all.length ∧ inIdx v81 (all.getD (((l.getD (v24).toNat z3).2.1).toNat) ([] : LI)).length ∧ inIdx ((l.getD (v24).toNat z3).2.2) all.length ∧ inIdx v81 (all.getD (((l.getD (v24).toNat z3).2.2).toNat) ([] : LI)).length ∧ inIdx v81 rv.length ∧ (InR (v81 + (1 : Int)) ∧ X4 ((v81 + (1 : Int)), (rv.set ((v81).toNat) (bOr .u32 ((all.getD (((l.getD (v24).toNat z3).2.1).toNat) ([] : LI)).getD (v81).toNat (0 : Int)) ((all.getD (((l.getD (v24).toNat z3).2.2).toNat) ([] : LI)).getD (v81).toNat (0 : Int)))))))) ∧ ((decide (v81 < ((w.length : Int) + (1 : Int)))) = false → VC46_k9 v24 all X1 rv))

def VC46_k10 (v24 : Int) (all : LL) (X1 : Int × LL → Prop) (rv : LI) : Prop :=
  VC46_k8 v24 all X1 rv

def VC46_k12 (v24 : Int) (all : LL) (X1 : Int × LL → Prop) (rv2 : LI) : Prop :=
  VC46_k10 v24 all X1 rv2

def VC46_k13 (v118 : Int) (X5 : Int × LI → Prop) (rv3 : LI) : Prop :=
  (InR (v118 + (1 : Int)) ∧ X5 ((v118 + (1 : Int)), rv3))

def VC46_l6 (w : LI) (v118 : Int) (X5 : Int × LI → Prop) (ret127v : LI) (v129 : Int) (rv3 : LI) (X6 : Int × LI → Prop) : Prop :=
  (((decide (v129 < ((w.length : Int) + (1 : Int)))) = true → (inIdx v129 rv3.length ∧ inIdx v129 ret127v.length ∧ (inIdx v129 rv3.length ∧ (InR (v129 + (1 : Int)) ∧ X6 ((v129 + (1 : Int)), (rv3.set ((v129).toNat) (bOr .u32 (rv3.getD ((v129).toNat) (0 : Int)) (ret127v.getD ((v129).toNat) (0 : Int))))))))) ∧ ((decide (v129 < ((w.length : Int) + (1 : Int)))) = false → VC46_k13 v118 X5 rv3))

def VC46_l5 (l : LN) (w : LI) (v24 : Int) (all : LL) (X1 : Int × LL → Prop) (v118 : Int) (rv2 : LI) (X5 : Int × LI → Prop) : Prop :=
  (((decide (v118 < ((w.length : Int) + (1 : Int)))) = true → (inIdx ((l.getD (v24).toNat z3).2.1) all.length ∧ VC86 rv2 (all.getD (((l.getD (v24).toNat z3).2.1).toNat) ([] : LI)) ((w.length : Int) + (1 : Int)) (fun (ret127v : LI) => Loop (σ := Int × LI) (fun s X => VC46_l6 w v118 X5 ret127v s.1 s.2 X) ((0 : Int), rv2)))) ∧ ((decide (v118 < ((w.length : Int) + (1 : Int)))) = false → VC46_k12 v24 all X1 rv2))

def VC46_k11 (l : LN) (w : LI) (v24 : Int) (all : LL) (X1 : Int × LL → Prop) (rv : LI) : Prop :=
  Loop (σ := Int × LI) (fun s X => VC46_l5 l w v24 all X1 s.1 s.2 X) ((0 : Int), rv)

def VC46_l7 (l : LN) (w : LI) (v24 : Int) (all : LL) (X1 : Int × LL → Prop) (v108 : Int) (rv : LI) (X7 : Int × LI → Prop) : Prop :=
  (((decide (v108 < ((w.length : Int) + (1 : Int)))) = true → (0 ≤ v108 ∧ inIdx v108 rv.length ∧ (InR (v108 + (1 : Int)) ∧ X7 ((v108 + (1 : Int)), (rv.set ((v108).toNat) (bShl .u32 (1 : Int) v108)))))) ∧ ((decide (v108 < ((w.length : Int) + (1 : Int)))) = false → VC46_k11 l w v24 all X1 rv))

def VC46_l1 (l : LN) (w : LI) (K : LI → Prop) (v24 : Int) (all : LL) (X1 : Int × LL → Prop) : Prop :=
  (((decide (v24 < (l.length : Int))) = true → (inIdx v24 l.length ∧ (room ((w.length : Int) + (1 : Int)) ∧ (((decide ((l.getD (v24).toNat z3).1 = (2 : Int))) = true → Loop (σ := Int × LI) (fun s X => VC46_l2 w v24 all X1 s.1 s.2 X) ((0 : Int), (List.replicate (((w.length : Int) + (1 : Int))).toNat (0 : Int)))) ∧ ((decide ((l.getD (v24).toNat z3).1 = (2 : Int))) = false → (((decide ((l.getD (v24).toNat z3).1 = (3 : Int))) = true → Loop (σ := Int × LI) (fun s X => VC46_l3 l w v24 all X1 s.1 s.2 X) ((0 : Int), (List.replicate (((w.length : Int) + (1 : Int))).toNat (0 : Int)))) ∧ ((decide ((l.getD (v24).toNat z3).1 = (3 : Int))) = false → (((decide ((l.getD (v24).toNat z3).1 = (4 : Int))) = true → (inIdx ((l.getD (v24).toNat z3).2.1) all.length ∧ inIdx ((l.getD (v24).toNat z3).2.2) all.length ∧ VC86 (all.getD (((l.getD (v24).toNat z3).2.1).toNat) ([] : LI)) (all.getD (((l.getD (v24).toNat z3).2.2).toNat) ([] : LI)) ((w.length : Int) + (1 : Int)) (fun (ret77v : LI) => VC46_k7 v24 all X1 ret77v))) ∧ ((decide ((l.getD (v24).toNat z3).1 = (4 : Int))) = false → (((decide ((l.getD (v24).toNat z3).1 = (5 : Int))) = true → Loop (σ := Int × LI) (fun s X => VC46_l4 l w v24 all X1 s.1 s.2 X) ((0 : Int), (List.replicate (((w.length : Int) + (1 : Int))).toNat (0 : Int)))) ∧ ((decide ((l.getD (v24).toNat z3).1 = (5 : Int))) = false → (((decide ((l.getD (v24).toNat z3).1 = (6 : Int))) = true → Loop (σ := Int × LI) (fun s X => VC46_l7 l w v24 all X1 s.1 s.2 X) ((0 : Int), (List.replicate (((w.length : Int) + (1 : Int))).toNat (0 : Int)))) ∧ ((decide ((l.getD (v24).toNat z3).1 = (6 : Int))) = false → VC46_k10 v24 all X1 (List.replicate (((w.length : Int) + (1 : Int))).toNat (0 : Int))))))))))))))) ∧ ((decide (v24 < (l.length : Int))) = false → VC46_k1 K all))

def VC46 (l : LN) (w : LI) (K : LI → Prop) : Prop :=
  (InR ((w.length : Int) + (1 : Int)) ∧ Loop (σ := Int × LL) (fun s X => VC46_l1 l w K s.1 s.2 X) ((0 : Int), ([] : List LI)))

set_option maxHeartbeats 4000000 in
theorem link46 (l : LN) (w : LI) (K : LI → Prop) (h : VC46 l w K) : ACalls Try.prog 46 [toV1 (.sl t3) l, toV1 (.sl (.int .i64)) w] (fun res => ∃ y, res = (fun y => [toV1 (.sl (.int .u32)) y]) y ∧ K y) := by
  refine acalls_of_aw [(.sl (.int .u32))] [.t 4] Try.func46 rfl rfl rfl ?_
  unfold VC46 at h
  refine aw_seq ?_
  refine aw_region ?_
  refine awl_runp 1 [0, 1] [] (ob := (True ∧ True)) (st' := (⟨155, [(0, [], .v (.c (.p (.sl t3) l))), (1, [], .v (.c (.pS w)))], []⟩ : St)) (by kernel_rfl) ⟨trivial, trivial⟩ ?_
  refine awl_nil ?_
  refine thenQ_n ?_
  refine aw_seq ?_
  refine aw_region ?_
  obtain ⟨o1, h⟩ := h
  refine awl_runp 5 [0, 1, 5] [5] (ob := (True ∧ True ∧ InR ((w.length : Int) + (1 : Int)) ∧ True ∧ True ∧ True)) (st' := (⟨155, [(0, [], .v (.c (.p (.sl t3) l))), (1, [], .v (.c (.pS w))), (5, [], .v (.c (.ptr 5 0)))], [(5, [], .box [.pI ((w.length : Int) + (1 : Int))])]⟩ : St)) (by kernel_rfl) ⟨trivial, trivial, o1, trivial, trivial, trivial⟩ ?_
  refine awl_nil ?_
  refine thenQ_n ?_
  refine aw_seq ?_
  refine aw_region ?_
  refine awl_conv [.freezeB 5 (.int .i64)] (st' := (⟨155, [(0, [], .v (.c (.p (.sl t3) l))), (1, [], .v (.c (.pS w))), (5, [], .v (.c (.ad (.int .i64) ((w.length : Int) + (1 : Int)))))], []⟩ : St)) (by kernel_rfl) ?_
  refine awl_runp 2 [0, 1, 5, 6] [] (ob := (True ∧ True ∧ True)) (st' := (⟨155, [(0, [], .v (.c (.p (.sl t3) l))), (1, [], .v (.c (.pS w))), (5, [], .v (.c (.ad (.int .i64) ((w.length : Int) + (1 : Int))))), (6, [], .v (.c (.fn 86 [(⟨(.int .i64), ((w.length : Int) + (1 : Int))⟩ : Dat)])))], []⟩ : St)) (by kernel_rfl) ⟨trivial, trivial, trivial⟩ ?_
  refine awl_nil ?_
  refine thenQ_n ?_
  refine aw_seq ?_
  refine aw_region ?_
  refine awl_runp 1 [0, 1, 5, 6, 7] [] (ob := (True ∧ True)) (st' := (⟨155, [(0, [], .v (.c (.p (.sl t3) l))), (1, [], .v (.c (.pS w))), (5, [], .v (.c (.ad (.int .i64) ((w.length : Int) + (1 : Int))))), (6, [], .v (.c (.fn 86 [(⟨(.int .i64), ((w.length : Int) + (1 : Int))⟩ : Dat)]))), (7, [], .v (.c (.nils)))], []⟩ : St)) (by kernel_rfl) ⟨trivial, trivial⟩ ?_
  refine awl_nil ?_
  refine thenQ_n ?_
  refine aw_seq ?_
  refine aw_seq ?_
  refine aw_region ?_
  refine awl_runp 3 [1, 5, 6, 7, 22, 23, 24] [] (ob := (True ∧ True ∧ True ∧ True)) (st' := (⟨155, [(1, [], .v (.c (.pS w))), (5, [], .v (.c (.ad (.int .i64) ((w.length : Int) + (1 : Int))))), (6, [], .v (.c (.fn 86 [(⟨(.int .i64), ((w.length : Int) + (1 : Int))⟩ : Dat)]))), (7, [], .v (.c (.nils))), (22, [], .v (.c (.p (.sl t3) l))), (23, [], .v (.c (.pI (l.length : Int)))), (24, [], .v (.c (.pI (0 : Int))))], []⟩ : St)) (by kernel_rfl) ⟨trivial, trivial, trivial, trivial⟩ ?_
  refine awl_nil ?_
  refine thenQ_n ?_
  refine withJoin (σ := LL) (fun s => (⟨155, [(7, [], .v (.c (.own 5007)))], [(5007, [], .arr 92 (.sl (.int .u32)) s)]⟩ : St)) (fun s => VC46_k1 K s) (fun all h => ?_) (fun rest1 => ?_)
  · have h : VC46_k1 K all := h
    unfold VC46_k1 at h
    refine thenQ_n ?_
    refine aw_seq ?_
    refine aw_region ?_
    obtain ⟨o1, o2, h⟩ := h
    refine awl_runp 7 [4] [] (ob := (True ∧ True ∧ True ∧ InR ((all.length : Int) - (1 : Int)) ∧ inIdx ((all.length : Int) - (1 : Int)) all.length ∧ True ∧ True ∧ True)) (st' := (⟨155, [(4, [], .v (.c (.p (.sl (.int .u32)) (all.getD ((((all.length : Int) - (1 : Int))).toNat) ([] : LI)))))], []⟩ : St)) (by kernel_rfl) ⟨trivial, trivial, trivial, o1, o2, trivial, trivial, trivial⟩ ?_
    refine awl_nil ?_
    refine thenQ_n ?_
    refine aw_ret ?_
    exact retQ_r (σ := LI) (R := (fun y => [toV1 (.sl (.int .u32)) y])) (ob := (True ∧ True)) (all.getD ((((all.length : Int) - (1 : Int))).toNat) ([] : LI)) (by kernel_rfl) ⟨trivial, trivial⟩ h
  · refine aw_block ?_
    refine aw_conv [.nilOwn 7 5007 92 (.sl (.int .u32)), .prune [1, 5, 6, 7, 22, 23, 24] [5007]] (st' := (⟨155, [(1, [], .v (.c (.pS w))), (5, [], .v (.c (.ad (.int .i64) ((w.length : Int) + (1 : Int))))), (6, [], .v (.c (.fn 86 [(⟨(.int .i64), ((w.length : Int) + (1 : Int))⟩ : Dat)]))), (7, [], .v (.c (.own 5007))), (22, [], .v (.c (.p (.sl t3) l))), (23, [], .v (.c (.pI (l.length : Int)))), (24, [], .v (.c (.pI (0 : Int))))], [(5007, [], .arr 92 (.sl (.int .u32)) ([] : List LI))]⟩ : St)) (by kernel_rfl) ?_
    refine aw_loop (σ := Int × LL) (fun s => (⟨155, [(1, [], .v (.c (.pS w))), (5, [], .v (.c (.ad (.int .i64) ((w.length : Int) + (1 : Int))))), (6, [], .v (.c (.fn 86 [(⟨(.int .i64), ((w.length : Int) + (1 : Int))⟩ : Dat)]))), (7, [], .v (.c (.own 5007))), (22, [], .v (.c (.p (.sl t3) l))), (23, [], .v (.c (.pI (l.length : Int)))), (24, [], .v (.c (.pI s.1)))], [(5007, [], .arr 92 (.sl (.int .u32)) s.2)]⟩ : St)) (fun s X => VC46_l1 l w K s.1 s.2 X) (s0 := ((0 : Int), ([] : List LI))) (fun s X1 h => ?_) h
    obtain ⟨v24, all⟩ := s
    have h : VC46_l1 l w K v24 all X1 := h
    unfold VC46_l1 at h
    refine aw_seq ?_
    refine aw_region ?_
    refine awl_runp 1 [1, 5, 6, 7, 22, 23, 24, 25] [5007] (ob := (True ∧ True)) (st' := (⟨155, [(1, [], .v (.c (.pS w))), (5, [], .v (.c (.ad (.int .i64) ((w.length : Int) + (1 : Int))))), (6, [], .v (.c (.fn 86 [(⟨(.int .i64), ((w.length : Int) + (1 : Int))⟩ : Dat)]))), (7, [], .v (.c (.own 5007))), (22, [], .v (.c (.p (.sl t3) l))), (23, [], .v (.c (.pI (l.length : Int)))), (24, [], .v (.c (.pI v24))), (25, [], .v (.c (.pB (decide (v24 < (l.length : Int))))))], [(5007, [], .arr 92 (.sl (.int .u32)) all)]⟩ : St)) (by kernel_rfl) ⟨trivial, trivial⟩ ?_
    refine awl_nil ?_
    refine thenQ_n ?_
    refine aw_seq ?_
    refine aw_cond (b := (decide (v24 < (l.length : Int)))) (by kernel_rfl) (fun hb => ?_) (fun hb => ?_)
    · have h := h.1 hb
      refine aw_skip ?_
      refine thenQ_n ?_
      refine aw_seq ?_
      refine aw_block ?_
      refine aw_seq ?_
      refine aw_region ?_
      obtain ⟨o1, h⟩ := h
      refine awl_runp 4 [1, 5, 6, 7, 9, 22, 23, 24] [9, 5007] (ob := (inIdx v24 l.length ∧ True ∧ True ∧ True ∧ True)) (st' := (⟨155, [(1, [], .v (.c (.pS w))), (5, [], .v (.c (.ad (.int .i64) ((w.length : Int) + (1 : Int))))), (6, [], .v (.c (.fn 86 [(⟨(.int .i64), ((w.length : Int) + (1 : Int))⟩ : Dat)]))), (7, [], .v (.c (.own 5007))), (9, [], .v (.c (.ptr 9 0))), (22, [], .v (.c (.p (.sl t3) l))), (23, [], .v (.c (.pI (l.length : Int)))), (24, [], .v (.c (.pI v24)))], [(9, [], .box [.pI ((l.getD (v24).toNat z3).1), .pI ((l.getD (v24).toNat z3).2.1), .pI ((l.getD (v24).toNat z3).2.2)]), (5007, [], .arr 92 (.sl (.int .u32)) all)]⟩ : St)) (by kernel_rfl) ⟨o1, trivial, trivial, trivial, trivial⟩ ?_
      refine awl_nil ?_
      refine thenQ_n ?_
      refine aw_seq ?_
      refine aw_region ?_
      obtain ⟨o1, h⟩ := h
      refine awl_runp 3 [1, 5, 6, 7, 9, 10, 22, 23, 24] [9, 29, 5007] (ob := (True ∧ room ((w.length : Int) + (1 : Int)) ∧ True ∧ True)) (st' := (⟨155, [(1, [], .v (.c (.pS w))), (5, [], .v (.c (.ad (.int .i64) ((w.length : Int) + (1 : Int))))), (6, [], .v (.c (.fn 86 [(⟨(.int .i64), ((w.length : Int) + (1 : Int))⟩ : Dat)]))), (7, [], .v (.c (.own 5007))), (9, [], .v (.c (.ptr 9 0))), (10, [], .v (.c (.own 29))), (22, [], .v (.c (.p (.sl t3) l))), (23, [], .v (.c (.pI (l.length : Int)))), (24, [], .v (.c (.pI v24)))], [(9, [], .box [.pI ((l.getD (v24).toNat z3).1), .pI ((l.getD (v24).toNat z3).2.1), .pI ((l.getD (v24).toNat z3).2.2)]), (29, [], .arr 39 (.int .u32) (List.replicate (((w.length : Int) + (1 : Int))).toNat (0 : Int))), (5007, [], .arr 92 (.sl (.int .u32)) all)]⟩ : St)) (by kernel_rfl) ⟨trivial, o1, trivial, trivial⟩ ?_
      refine awl_nil ?_
      refine thenQ_n ?_
      refine aw_seq ?_
      refine aw_seq ?_
      refine aw_region ?_
      refine awl_runp 2 [1, 5, 6, 7, 9, 10, 22, 23, 24, 31] [9, 29, 5007] (ob := (True ∧ True ∧ True)) (st' := (⟨155, [(1, [], .v (.c (.pS w))), (5, [], .v (.c (.ad (.int .i64) ((w.length : Int) + (1 : Int))))), (6, [], .v (.c (.fn 86 [(⟨(.int .i64), ((w.length : Int) + (1 : Int))⟩ : Dat)]))), (7, [], .v (.c (.own 5007))), (9, [], .v (.c (.ptr 9 0))), (10, [], .v (.c (.own 29))), (22, [], .v (.c (.p (.sl t3) l))), (23, [], .v (.c (.pI (l.length : Int)))), (24, [], .v (.c (.pI v24))), (31, [], .v (.c (.pI ((l.getD (v24).toNat z3).1))))], [(9, [], .box [.pI ((l.getD (v24).toNat z3).1), .pI ((l.getD (v24).toNat z3).2.1), .pI ((l.getD (v24).toNat z3).2.2)]), (29, [], .arr 39 (.int .u32) (List.replicate (((w.length : Int) + (1 : Int))).toNat (0 : Int))), (5007, [], .arr 92 (.sl (.int .u32)) all)]⟩ : St)) (by kernel_rfl) ⟨trivial, trivial, trivial⟩ ?_
      refine awl_nil ?_
      refine thenQ_n ?_
      refine aw_block ?_
      refine aw_seq ?_
      refine aw_region ?_
      refine awl_runp 2 [1, 5, 6, 7, 9, 10, 22, 23, 24, 31, 32] [9, 29, 5007] (ob := (True ∧ True ∧ True)) (st' := (⟨155, [(1, [], .v (.c (.pS w))), (5, [], .v (.c (.ad (.int .i64) ((w.length : Int) + (1 : Int))))), (6, [], .v (.c (.fn 86 [(⟨(.int .i64), ((w.length : Int) + (1 : Int))⟩ : Dat)]))), (7, [], .v (.c (.own 5007))), (9, [], .v (.c (.ptr 9 0))), (10, [], .v (.c (.own 29))), (22, [], .v (.c (.p (.sl t3) l))), (23, [], .v (.c (.pI (l.length : Int)))), (24, [], .v (.c (.pI v24))), (31, [], .v (.c (.pI ((l.getD (v24).toNat z3).1)))), (32, [], .v (.c (.pB (decide ((l.getD (v24).toNat z3).1 = (2 : Int))))))], [(9, [], .box [.pI ((l.getD (v24).toNat z3).1), .pI ((l.getD (v24).toNat z3).2.1), .pI ((l.getD (v24).toNat z3).2.2)]), (29, [], .arr 39 (.int .u32) (List.replicate (((w.length : Int) + (1 : Int))).toNat (0 : Int))), (5007, [], .arr 92 (.sl (.int .u32)) all)]⟩ : St)) (by kernel_rfl) ⟨trivial, trivial, trivial⟩ ?_
      refine awl_nil ?_
      refine thenQ_n ?_
      refine withJoin (σ := LI) (fun s => (⟨155, [(1, [], .v (.c (.pS w))), (5, [], .v (.c (.ad (.int .i64) ((w.length : Int) + (1 : Int))))), (6, [], .v (.c (.fn 86 [(⟨(.int .i64), ((w.length : Int) + (1 : Int))⟩ : Dat)]))), (7, [], .v (.c (.own 5007))), (10, [], .v (.c (.own 29))), (22, [], .v (.c (.p (.sl t3) l))), (23, [], .v (.c (.pI (l.length : Int)))), (24, [], .v (.c (.pI v24)))], [(29, [], .arr 39 (.int .u32) s), (5007, [], .arr 92 (.sl (.int .u32)) all)]⟩ : St)) (fun s => VC46_k2 v24 all X1 s) (fun rv h => ?_) (fun rest2 => ?_)
      · have h : VC46_k2 v24 all X1 rv := h
        unfold VC46_k2 at h
        refine blockQ_n ?_
        refine thenQ_n ?_
        refine aw_region ?_
        refine awl_runp 2 [1, 5, 6, 22, 23, 24, 144, 145] [29, 5007] (ob := (True ∧ True ∧ True)) (st' := (⟨155, [(1, [], .v (.c (.pS w))), (5, [], .v (.c (.ad (.int .i64) ((w.length : Int) + (1 : Int))))), (6, [], .v (.c (.fn 86 [(⟨(.int .i64), ((w.length : Int) + (1 : Int))⟩ : Dat)]))), (22, [], .v (.c (.p (.sl t3) l))), (23, [], .v (.c (.pI (l.length : Int)))), (24, [], .v (.c (.pI v24))), (144, [], .v (.c (.own 5007))), (145, [], .v (.c (.own 29)))], [(29, [], .arr 39 (.int .u32) rv), (5007, [], .arr 92 (.sl (.int .u32)) all)]⟩ : St)) (by kernel_rfl) ⟨trivial, trivial, trivial⟩ ?_
        refine awl_conv [.freeze 29] (st' := (⟨155, [(1, [], .v (.c (.pS w))), (5, [], .v (.c (.ad (.int .i64) ((w.length : Int) + (1 : Int))))), (6, [], .v (.c (.fn 86 [(⟨(.int .i64), ((w.length : Int) + (1 : Int))⟩ : Dat)]))), (22, [], .v (.c (.p (.sl t3) l))), (23, [], .v (.c (.pI (l.length : Int)))), (24, [], .v (.c (.pI v24))), (144, [], .v (.c (.own 5007))), (145, [], .v (.c (.p (.sl (.int .u32)) rv)))], [(5007, [], .arr 92 (.sl (.int .u32)) all)]⟩ : St)) (by kernel_rfl) ?_
        obtain ⟨o1, h⟩ := h
        refine awl_runp 3 [1, 5, 6, 7, 22, 23, 24] [147] (ob := (True ∧ roomN (all.length + [rv].length) ∧ True ∧ True)) (st' := (⟨155, [(1, [], .v (.c (.pS w))), (5, [], .v (.c (.ad (.int .i64) ((w.length : Int) + (1 : Int))))), (6, [], .v (.c (.fn 86 [(⟨(.int .i64), ((w.length : Int) + (1 : Int))⟩ : Dat)]))), (7, [], .v (.c (.own 147))), (22, [], .v (.c (.p (.sl t3) l))), (23, [], .v (.c (.pI (l.length : Int)))), (24, [], .v (.c (.pI v24)))], [(147, [], .arr 92 (.sl (.int .u32)) (all ++ [rv]))]⟩ : St)) (by kernel_rfl) ⟨trivial, o1, trivial, trivial⟩ ?_
        refine awl_nil ?_
        refine blockQ_n ?_
        refine thenQ_n ?_
        refine aw_region ?_
        obtain ⟨o1, h⟩ := h
        refine awl_runp 2 [1, 5, 6, 7, 22, 23, 24] [147] (ob := (InR (v24 + (1 : Int)) ∧ True ∧ True)) (st' := (⟨155, [(1, [], .v (.c (.pS w))), (5, [], .v (.c (.ad (.int .i64) ((w.length : Int) + (1 : Int))))), (6, [], .v (.c (.fn 86 [(⟨(.int .i64), ((w.length : Int) + (1 : Int))⟩ : Dat)]))), (7, [], .v (.c (.own 147))), (22, [], .v (.c (.p (.sl t3) l))), (23, [], .v (.c (.pI (l.length : Int)))), (24, [], .v (.c (.pI (v24 + (1 : Int)))))], [(147, [], .arr 92 (.sl (.int .u32)) (all ++ [rv]))]⟩ : St)) (by kernel_rfl) ⟨o1, trivial, trivial⟩ ?_
        refine awl_conv [.ren 147 20147, .ren 20147 5007] (st' := (⟨155, [(1, [], .v (.c (.pS w))), (5, [], .v (.c (.ad (.int .i64) ((w.length : Int) + (1 : Int))))), (6, [], .v (.c (.fn 86 [(⟨(.int .i64), ((w.length : Int) + (1 : Int))⟩ : Dat)]))), (7, [], .v (.c (.own 5007))), (22, [], .v (.c (.p (.sl t3) l))), (23, [], .v (.c (.pI (l.length : Int)))), (24, [], .v (.c (.pI (v24 + (1 : Int)))))], [(5007, [], .arr 92 (.sl (.int .u32)) (all ++ [rv]))]⟩ : St)) (by kernel_rfl) ?_
        refine awl_nil ?_
        exact thenQ_n ⟨((v24 + (1 : Int)), (all ++ [rv])), rfl, h⟩
      · refine aw_cond (b := (decide ((l.getD (v24).toNat z3).1 = (2 : Int)))) (by kernel_rfl) (fun hb => ?_) (fun hb => ?_)
        · have h := h.1 hb
          refine aw_seq ?_
          refine aw_region ?_
          refine awl_runp 2 [1, 5, 6, 7, 10, 22, 23, 24, 34, 35] [29, 5007] (ob := (True ∧ True ∧ True)) (st' := (⟨155, [(1, [], .v (.c (.pS w))), (5, [], .v (.c (.ad (.int .i64) ((w.length : Int) + (1 : Int))))), (6, [], .v (.c (.fn 86 [(⟨(.int .i64), ((w.length : Int) + (1 : Int))⟩ : Dat)]))), (7, [], .v (.c (.own 5007))), (10, [], .v (.c (.own 29))), (22, [], .v (.c (.p (.sl t3) l))), (23, [], .v (.c (.pI (l.length : Int)))), (24, [], .v (.c (.pI v24))), (34, [], .v (.c (.pI ((w.length : Int) + (1 : Int))))), (35, [], .v (.c (.pI (0 : Int))))], [(29, [], .arr 39 (.int .u32) (List.replicate (((w.length : Int) + (1 : Int))).toNat (0 : Int))), (5007, [], .arr 92 (.sl (.int .u32)) all)]⟩ : St)) (by kernel_rfl) ⟨trivial, trivial, trivial⟩ ?_
          refine awl_nil ?_
          refine thenQ_n ?_
          refine withJoin (σ := LI) (fun s => (⟨155, [(1, [], .v (.c (.pS w))), (5, [], .v (.c (.ad (.int .i64) ((w.length : Int) + (1 : Int))))), (6, [], .v (.c (.fn 86 [(⟨(.int .i64), ((w.length : Int) + (1 : Int))⟩ : Dat)]))), (7, [], .v (.c (.own 5007))), (10, [], .v (.c (.own 29))), (22, [], .v (.c (.p (.sl t3) l))), (23, [], .v (.c (.pI (l.length : Int)))), (24, [], .v (.c (.pI v24)))], [(29, [], .arr 39 (.int .u32) s), (5007, [], .arr 92 (.sl (.int .u32)) all)]⟩ : St)) (fun s => VC46_k3 v24 all X1 s) (fun rv h => ?_) (fun rest3 => ?_)
          · have h : VC46_k3 v24 all X1 rv := h
            unfold VC46_k3 at h
            exact rest2 rv h
          · refine aw_block ?_
            refine aw_loop (σ := Int × LI) (fun s => (⟨155, [(1, [], .v (.c (.pS w))), (5, [], .v (.c (.ad (.int .i64) ((w.length : Int) + (1 : Int))))), (6, [], .v (.c (.fn 86 [(⟨(.int .i64), ((w.length : Int) + (1 : Int))⟩ : Dat)]))), (7, [], .v (.c (.own 5007))), (10, [], .v (.c (.own 29))), (22, [], .v (.c (.p (.sl t3) l))), (23, [], .v (.c (.pI (l.length : Int)))), (24, [], .v (.c (.pI v24))), (34, [], .v (.c (.pI ((w.length : Int) + (1 : Int))))), (35, [], .v (.c (.pI s.1)))], [(29, [], .arr 39 (.int .u32) s.2), (5007, [], .arr 92 (.sl (.int .u32)) all)]⟩ : St)) (fun s X => VC46_l2 w v24 all X1 s.1 s.2 X) (s0 := ((0 : Int), (List.replicate (((w.length : Int) + (1 : Int))).toNat (0 : Int)))) (fun s X2 h => ?_) h
            obtain ⟨v35, rv⟩ := s
            have h : VC46_l2 w v24 all X1 v35 rv X2 := h
            unfold VC46_l2 at h
            refine aw_seq ?_
            refine aw_region ?_
            refine awl_runp 1 [1, 5, 6, 7, 10, 22, 23, 24, 34, 35, 36] [29, 5007] (ob := (True ∧ True)) (st' := (⟨155, [(1, [], .v (.c (.pS w))), (5, [], .v (.c (.ad (.int .i64) ((w.length : Int) + (1 : Int))))), (6, [], .v (.c (.fn 86 [(⟨(.int .i64), ((w.length : Int) + (1 : Int))⟩ : Dat)]))), (7, [], .v (.c (.own 5007))), (10, [], .v (.c (.own 29))), (22, [], .v (.c (.p (.sl t3) l))), (23, [], .v (.c (.pI (l.length : Int)))), (24, [], .v (.c (.pI v24))), (34, [], .v (.c (.pI ((w.length : Int) + (1 : Int))))), (35, [], .v (.c (.pI v35))), (36, [], .v (.c (.pB (decide (v35 < ((w.length : Int) + (1 : Int)))))))], [(29, [], .arr 39 (.int .u32) rv), (5007, [], .arr 92 (.sl (.int .u32)) all)]⟩ : St)) (by kernel_rfl) ⟨trivial, trivial⟩ ?_
            refine awl_nil ?_
            refine thenQ_n ?_
            refine aw_seq ?_
            refine aw_cond (b := (decide (v35 < ((w.length : Int) + (1 : Int))))) (by kernel_rfl) (fun hb => ?_) (fun hb => ?_)
            · have h := h.1 hb
              refine aw_skip ?_
              refine thenQ_n ?_
              refine aw_seq ?_
              refine aw_block ?_
              refine aw_seq ?_
              refine aw_region ?_
              refine awl_runp 2 [1, 5, 6, 7, 10, 11, 22, 23, 24, 34, 35] [29, 5007] (ob := (True ∧ True ∧ True)) (st' := (⟨155, [(1, [], .v (.c (.pS w))), (5, [], .v (.c (.ad (.int .i64) ((w.length : Int) + (1 : Int))))), (6, [], .v (.c (.fn 86 [(⟨(.int .i64), ((w.length : Int) + (1 : Int))⟩ : Dat)]))), (7, [], .v (.c (.own 5007))), (10, [], .v (.c (.own 29))), (11, [], .v (.c (.pI v35))), (22, [], .v (.c (.p (.sl t3) l))), (23, [], .v (.c (.pI (l.length : Int)))), (24, [], .v (.c (.pI v24))), (34, [], .v (.c (.pI ((w.length : Int) + (1 : Int))))), (35, [], .v (.c (.pI v35)))], [(29, [], .arr 39 (.int .u32) rv), (5007, [], .arr 92 (.sl (.int .u32)) all)]⟩ : St)) (by kernel_rfl) ⟨trivial, trivial, trivial⟩ ?_
              refine awl_nil ?_
              refine thenQ_n ?_
              refine aw_region ?_
              obtain ⟨o1, o2, h⟩ := h
              refine awl_runp 6 [1, 5, 6, 7, 10, 22, 23, 24, 34, 35] [29, 5007] (ob := (True ∧ True ∧ True ∧ 0 ≤ v35 ∧ inIdx v35 rv.length ∧ True ∧ True)) (st' := (⟨155, [(1, [], .v (.c (.pS w))), (5, [], .v (.c (.ad (.int .i64) ((w.length : Int) + (1 : Int))))), (6, [], .v (.c (.fn 86 [(⟨(.int .i64), ((w.length : Int) + (1 : Int))⟩ : Dat)]))), (7, [], .v (.c (.own 5007))), (10, [], .v (.c (.own 29))), (22, [], .v (.c (.p (.sl t3) l))), (23, [], .v (.c (.pI (l.length : Int)))), (24, [], .v (.c (.pI v24))), (34, [], .v (.c (.pI ((w.length : Int) + (1 : Int))))), (35, [], .v (.c (.pI v35)))], [(29, [], .arr 39 (.int .u32) (rv.set ((v35).toNat) (bShl .u32 (1 : Int) v35))), (5007, [], .arr 92 (.sl (.int .u32)) all)]⟩ : St)) (by kernel_rfl) ⟨trivial, trivial, trivial, o1, o2, trivial, trivial⟩ ?_
              refine awl_nil ?_
              refine blockQ_n ?_
              refine thenQ_n ?_
              refine aw_region ?_
              obtain ⟨o1, h⟩ := h
              refine awl_runp 2 [1, 5, 6, 7, 10, 22, 23, 24, 34, 35] [29, 5007] (ob := (InR (v35 + (1 : Int)) ∧ True ∧ True)) (st' := (⟨155, [(1, [], .v (.c (.pS w))), (5, [], .v (.c (.ad (.int .i64) ((w.length : Int) + (1 : Int))))), (6, [], .v (.c (.fn 86 [(⟨(.int .i64), ((w.length : Int) + (1 : Int))⟩ : Dat)]))), (7, [], .v (.c (.own 5007))), (10, [], .v (.c (.own 29))), (22, [], .v (.c (.p (.sl t3) l))), (23, [], .v (.c (.pI (l.length : Int)))), (24, [], .v (.c (.pI v24))), (34, [], .v (.c (.pI ((w.length : Int) + (1 : Int))))), (35, [], .v (.c (.pI (v35 + (1 : Int)))))], [(29, [], .arr 39 (.int .u32) (rv.set ((v35).toNat) (bShl .u32 (1 : Int) v35))), (5007, [], .arr 92 (.sl (.int .u32)) all)]⟩ : St)) (by kernel_rfl) ⟨o1, trivial, trivial⟩ ?_
              refine awl_nil ?_
              exact thenQ_n ⟨((v35 + (1 : Int)), (rv.set ((v35).toNat) (bShl .u32 (1 : Int) v35))), rfl, h⟩
            · have h := h.2 hb
              refine aw_conv [.prune [1, 5, 6, 7, 10, 22, 23, 24] [29, 5007]] (st' := (⟨155, [(1, [], .v (.c (.pS w))), (5, [], .v (.c (.ad (.int .i64) ((w.length : Int) + (1 : Int))))), (6, [], .v (.c (.fn 86 [(⟨(.int .i64), ((w.length : Int) + (1 : Int))⟩ : Dat)]))), (7, [], .v (.c (.own 5007))), (10, [], .v (.c (.own 29))), (22, [], .v (.c (.p (.sl t3) l))), (23, [], .v (.c (.pI (l.length : Int)))), (24, [], .v (.c (.pI v24)))], [(29, [], .arr 39 (.int .u32) rv), (5007, [], .arr 92 (.sl (.int .u32)) all)]⟩ : St)) (by kernel_rfl) ?_
              refine aw_exit ?_
              refine thenQ_x ?_
              refine thenQ_x ?_
              refine blockQ_hit ?_
              exact rest3 rv h
        · have h := h.2 hb
          refine aw_seq ?_
          refine aw_region ?_
          refine awl_runp 2 [1, 5, 6, 7, 9, 10, 22, 23, 24, 31, 44] [9, 29, 5007] (ob := (True ∧ True ∧ True)) (st' := (⟨155, [(1, [], .v (.c (.pS w))), (5, [], .v (.c (.ad (.int .i64) ((w.length : Int) + (1 : Int))))), (6, [], .v (.c (.fn 86 [(⟨(.int .i64), ((w.length : Int) + (1 : Int))⟩ : Dat)]))), (7, [], .v (.c (.own 5007))), (9, [], .v (.c (.ptr 9 0))), (10, [], .v (.c (.own 29))), (22, [], .v (.c (.p (.sl t3) l))), (23, [], .v (.c (.pI (l.length : Int)))), (24, [], .v (.c (.pI v24))), (31, [], .v (.c (.pI ((l.getD (v24).toNat z3).1)))), (44, [], .v (.c (.pB (decide ((l.getD (v24).toNat z3).1 = (3 : Int))))))], [(9, [], .box [.pI ((l.getD (v24).toNat z3).1), .pI ((l.getD (v24).toNat z3).2.1), .pI ((l.getD (v24).toNat z3).2.2)]), (29, [], .arr 39 (.int .u32) (List.replicate (((w.length : Int) + (1 : Int))).toNat (0 : Int))), (5007, [], .arr 92 (.sl (.int .u32)) all)]⟩ : St)) (by kernel_rfl) ⟨trivial, trivial, trivial⟩ ?_
          refine awl_nil ?_
          refine thenQ_n ?_
          refine withJoin (σ := LI) (fun s => (⟨155, [(1, [], .v (.c (.pS w))), (5, [], .v (.c (.ad (.int .i64) ((w.length : Int) + (1 : Int))))), (6, [], .v (.c (.fn 86 [(⟨(.int .i64), ((w.length : Int) + (1 : Int))⟩ : Dat)]))), (7, [], .v (.c (.own 5007))), (10, [], .v (.c (.own 29))), (22, [], .v (.c (.p (.sl t3) l))), (23, [], .v (.c (.pI (l.length : Int)))), (24, [], .v (.c (.pI v24)))], [(29, [], .arr 39 (.int .u32) s), (5007, [], .arr 92 (.sl (.int .u32)) all)]⟩ : St)) (fun s => VC46_k4 v24 all X1 s) (fun rv h => ?_) (fun rest4 => ?_)
          · have h : VC46_k4 v24 all X1 rv := h
            unfold VC46_k4 at h
            exact rest2 rv h
          · refine aw_cond (b := (decide ((l.getD (v24).toNat z3).1 = (3 : Int)))) (by kernel_rfl) (fun hb => ?_) (fun hb => ?_)
            · have h := h.1 hb
              refine aw_seq ?_
              refine aw_region ?_
              refine awl_runp 3 [1, 5, 6, 7, 9, 10, 22, 23, 24, 46, 47, 48] [9, 29, 5007] (ob := (True ∧ True ∧ True ∧ True)) (st' := (⟨155, [(1, [], .v (.c (.pS w))), (5, [], .v (.c (.ad (.int .i64) ((w.length : Int) + (1 : Int))))), (6, [], .v (.c (.fn 86 [(⟨(.int .i64), ((w.length : Int) + (1 : Int))⟩ : Dat)]))), (7, [], .v (.c (.own 5007))), (9, [], .v (.c (.ptr 9 0))), (10, [], .v (.c (.own 29))), (22, [], .v (.c (.p (.sl t3) l))), (23, [], .v (.c (.pI (l.length : Int)))), (24, [], .v (.c (.pI v24))), (46, [], .v (.c (.pS w))), (47, [], .v (.c (.pI (w.length : Int)))), (48, [], .v (.c (.pI (0 : Int))))], [(9, [], .box [.pI ((l.getD (v24).toNat z3).1), .pI ((l.getD (v24).toNat z3).2.1), .pI ((l.getD (v24).toNat z3).2.2)]), (29, [], .arr 39 (.int .u32) (List.replicate (((w.length : Int) + (1 : Int))).toNat (0 : Int))), (5007, [], .arr 92 (.sl (.int .u32)) all)]⟩ : St)) (by kernel_rfl) ⟨trivial, trivial, trivial, trivial⟩ ?_
              refine awl_nil ?_
              refine thenQ_n ?_
              refine withJoin (σ := LI) (fun s => (⟨155, [(1, [], .v (.c (.pS w))), (5, [], .v (.c (.ad (.int .i64) ((w.length : Int) + (1 : Int))))), (6, [], .v (.c (.fn 86 [(⟨(.int .i64), ((w.length : Int) + (1 : Int))⟩ : Dat)]))), (7, [], .v (.c (.own 5007))), (10, [], .v (.c (.own 29))), (22, [], .v (.c (.p (.sl t3) l))), (23, [], .v (.c (.pI (l.length : Int)))), (24, [], .v (.c (.pI v24)))], [(29, [], .arr 39 (.int .u32) s), (5007, [], .arr 92 (.sl (.int .u32)) all)]⟩ : St)) (fun s => VC46_k5 v24 all X1 s) (fun rv h => ?_) (fun rest5 => ?_)
              · have h : VC46_k5 v24 all X1 rv := h
                unfold VC46_k5 at h
                exact rest4 rv h
              · refine aw_block ?_
                refine aw_loop (σ := Int × LI) (fun s => (⟨155, [(1, [], .v (.c (.pS w))), (5, [], .v (.c (.ad (.int .i64) ((w.length : Int) + (1 : Int))))), (6, [], .v (.c (.fn 86 [(⟨(.int .i64), ((w.length : Int) + (1 : Int))⟩ : Dat)]))), (7, [], .v (.c (.own 5007))), (9, [], .v (.c (.ptr 9 0))), (10, [], .v (.c (.own 29))), (22, [], .v (.c (.p (.sl t3) l))), (23, [], .v (.c (.pI (l.length : Int)))), (24, [], .v (.c (.pI v24))), (46, [], .v (.c (.pS w))), (47, [], .v (.c (.pI (w.length : Int)))), (48, [], .v (.c (.pI s.1)))], [(9, [], .box [.pI ((l.getD (v24).toNat z3).1), .pI ((l.getD (v24).toNat z3).2.1), .pI ((l.getD (v24).toNat z3).2.2)]), (29, [], .arr 39 (.int .u32) s.2), (5007, [], .arr 92 (.sl (.int .u32)) all)]⟩ : St)) (fun s X => VC46_l3 l w v24 all X1 s.1 s.2 X) (s0 := ((0 : Int), (List.replicate (((w.length : Int) + (1 : Int))).toNat (0 : Int)))) (fun s X3 h => ?_) h
                obtain ⟨v48, rv⟩ := s
                have h : VC46_l3 l w v24 all X1 v48 rv X3 := h
                unfold VC46_l3 at h
                refine aw_seq ?_
                refine aw_region ?_
                refine awl_runp 1 [1, 5, 6, 7, 9, 10, 22, 23, 24, 46, 47, 48, 49] [9, 29, 5007] (ob := (True ∧ True)) (st' := (⟨155, [(1, [], .v (.c (.pS w))), (5, [], .v (.c (.ad (.int .i64) ((w.length : Int) + (1 : Int))))), (6, [], .v (.c (.fn 86 [(⟨(.int .i64), ((w.length : Int) + (1 : Int))⟩ : Dat)]))), (7, [], .v (.c (.own 5007))), (9, [], .v (.c (.ptr 9 0))), (10, [], .v (.c (.own 29))), (22, [], .v (.c (.p (.sl t3) l))), (23, [], .v (.c (.pI (l.length : Int)))), (24, [], .v (.c (.pI v24))), (46, [], .v (.c (.pS w))), (47, [], .v (.c (.pI (w.length : Int)))), (48, [], .v (.c (.pI v48))), (49, [], .v (.c (.pB (decide (v48 < (w.length : Int))))))], [(9, [], .box [.pI ((l.getD (v24).toNat z3).1), .pI ((l.getD (v24).toNat z3).2.1), .pI ((l.getD (v24).toNat z3).2.2)]), (29, [], .arr 39 (.int .u32) rv), (5007, [], .arr 92 (.sl (.int .u32)) all)]⟩ : St)) (by kernel_rfl) ⟨trivial, trivial⟩ ?_
                refine awl_nil ?_
                refine thenQ_n ?_
                refine aw_seq ?_
                refine aw_cond (b := (decide (v48 < (w.length : Int)))) (by kernel_rfl) (fun hb => ?_) (fun hb => ?_)
                · have h := h.1 hb
                  refine aw_skip ?_
                  refine thenQ_n ?_
                  refine aw_seq ?_
                  refine aw_block ?_
                  refine aw_seq ?_
                  refine aw_region ?_
                  obtain ⟨o1, h⟩ := h
                  refine awl_runp 5 [1, 5, 6, 7, 9, 10, 12, 13, 22, 23, 24, 46, 47, 48] [9, 29, 5007] (ob := (True ∧ inIdx v48 w.length ∧ True ∧ True ∧ True ∧ True)) (st' := (⟨155, [(1, [], .v (.c (.pS w))), (5, [], .v (.c (.ad (.int .i64) ((w.length : Int) + (1 : Int))))), (6, [], .v (.c (.fn 86 [(⟨(.int .i64), ((w.length : Int) + (1 : Int))⟩ : Dat)]))), (7, [], .v (.c (.own 5007))), (9, [], .v (.c (.ptr 9 0))), (10, [], .v (.c (.own 29))), (12, [], .v (.c (.pI v48))), (13, [], .v (.c (.pI (w.getD (v48).toNat (0 : Int))))), (22, [], .v (.c (.p (.sl t3) l))), (23, [], .v (.c (.pI (l.length : Int)))), (24, [], .v (.c (.pI v24))), (46, [], .v (.c (.pS w))), (47, [], .v (.c (.pI (w.length : Int)))), (48, [], .v (.c (.pI v48)))], [(9, [], .box [.pI ((l.getD (v24).toNat z3).1), .pI ((l.getD (v24).toNat z3).2.1), .pI ((l.getD (v24).toNat z3).2.2)]), (29, [], .arr 39 (.int .u32) rv), (5007, [], .arr 92 (.sl (.int .u32)) all)]⟩ : St)) (by kernel_rfl) ⟨trivial, o1, trivial, trivial, trivial, trivial⟩ ?_
                  refine awl_nil ?_
                  refine thenQ_n ?_
                  refine aw_seq ?_
                  refine aw_region ?_
                  refine awl_runp 4 [1, 5, 6, 7, 9, 10, 12, 22, 23, 24, 46, 47, 48, 56] [9, 29, 5007] (ob := (True ∧ True ∧ True ∧ True ∧ True)) (st' := (⟨155, [(1, [], .v (.c (.pS w))), (5, [], .v (.c (.ad (.int .i64) ((w.length : Int) + (1 : Int))))), (6, [], .v (.c (.fn 86 [(⟨(.int .i64), ((w.length : Int) + (1 : Int))⟩ : Dat)]))), (7, [], .v (.c (.own 5007))), (9, [], .v (.c (.ptr 9 0))), (10, [], .v (.c (.own 29))), (12, [], .v (.c (.pI v48))), (22, [], .v (.c (.p (.sl t3) l))), (23, [], .v (.c (.pI (l.length : Int)))), (24, [], .v (.c (.pI v24))), (46, [], .v (.c (.pS w))), (47, [], .v (.c (.pI (w.length : Int)))), (48, [], .v (.c (.pI v48))), (56, [], .v (.c (.pB (decide ((w.getD (v48).toNat (0 : Int)) = (l.getD (v24).toNat z3).2.1)))))], [(9, [], .box [.pI ((l.getD (v24).toNat z3).1), .pI ((l.getD (v24).toNat z3).2.1), .pI ((l.getD (v24).toNat z3).2.2)]), (29, [], .arr 39 (.int .u32) rv), (5007, [], .arr 92 (.sl (.int .u32)) all)]⟩ : St)) (by kernel_rfl) ⟨trivial, trivial, trivial, trivial, trivial⟩ ?_
                  refine awl_nil ?_
                  refine thenQ_n ?_
                  refine withJoin (σ := LI) (fun s => (⟨155, [(1, [], .v (.c (.pS w))), (5, [], .v (.c (.ad (.int .i64) ((w.length : Int) + (1 : Int))))), (6, [], .v (.c (.fn 86 [(⟨(.int .i64), ((w.length : Int) + (1 : Int))⟩ : Dat)]))), (7, [], .v (.c (.own 5007))), (9, [], .v (.c (.ptr 9 0))), (10, [], .v (.c (.own 29))), (22, [], .v (.c (.p (.sl t3) l))), (23, [], .v (.c (.pI (l.length : Int)))), (24, [], .v (.c (.pI v24))), (46, [], .v (.c (.pS w))), (47, [], .v (.c (.pI (w.length : Int)))), (48, [], .v (.c (.pI v48)))], [(9, [], .box [.pI ((l.getD (v24).toNat z3).1), .pI ((l.getD (v24).toNat z3).2.1), .pI ((l.getD (v24).toNat z3).2.2)]), (29, [], .arr 39 (.int .u32) s), (5007, [], .arr 92 (.sl (.int .u32)) all)]⟩ : St)) (fun s => VC46_k6 v48 X3 s) (fun rv2 h => ?_) (fun rest6 => ?_)
                  · have h : VC46_k6 v48 X3 rv2 := h
                    unfold VC46_k6 at h
                    refine blockQ_n ?_
                    refine thenQ_n ?_
                    refine aw_region ?_
                    obtain ⟨o1, h⟩ := h
                    refine awl_runp 2 [1, 5, 6, 7, 9, 10, 22, 23, 24, 46, 47, 48] [9, 29, 5007] (ob := (InR (v48 + (1 : Int)) ∧ True ∧ True)) (st' := (⟨155, [(1, [], .v (.c (.pS w))), (5, [], .v (.c (.ad (.int .i64) ((w.length : Int) + (1 : Int))))), (6, [], .v (.c (.fn 86 [(⟨(.int .i64), ((w.length : Int) + (1 : Int))⟩ : Dat)]))), (7, [], .v (.c (.own 5007))), (9, [], .v (.c (.ptr 9 0))), (10, [], .v (.c (.own 29))), (22, [], .v (.c (.p (.sl t3) l))), (23, [], .v (.c (.pI (l.length : Int)))), (24, [], .v (.c (.pI v24))), (46, [], .v (.c (.pS w))), (47, [], .v (.c (.pI (w.length : Int)))), (48, [], .v (.c (.pI (v48 + (1 : Int)))))], [(9, [], .box [.pI ((l.getD (v24).toNat z3).1), .pI ((l.getD (v24).toNat z3).2.1), .pI ((l.getD (v24).toNat z3).2.2)]), (29, [], .arr 39 (.int .u32) rv2), (5007, [], .arr 92 (.sl (.int .u32)) all)]⟩ : St)) (by kernel_rfl) ⟨o1, trivial, trivial⟩ ?_
                    refine awl_nil ?_
                    exact thenQ_n ⟨((v48 + (1 : Int)), rv2), rfl, h⟩
                  · refine aw_cond (b := (decide ((w.getD (v48).toNat (0 : Int)) = (l.getD (v24).toNat z3).2.1))) (by kernel_rfl) (fun hb => ?_) (fun hb => ?_)
                    · have h := h.1 hb
                      refine aw_region ?_
                      obtain ⟨o1, o2, o3, h⟩ := h
                      refine awl_runp 7 [1, 5, 6, 7, 9, 10, 22, 23, 24, 46, 47, 48] [9, 29, 5007] (ob := (True ∧ True ∧ True ∧ InR (v48 + (1 : Int)) ∧ 0 ≤ (v48 + (1 : Int)) ∧ inIdx v48 rv.length ∧ True ∧ True)) (st' := (⟨155, [(1, [], .v (.c (.pS w))), (5, [], .v (.c (.ad (.int .i64) ((w.length : Int) + (1 : Int))))), (6, [], .v (.c (.fn 86 [(⟨(.int .i64), ((w.length : Int) + (1 : Int))⟩ : Dat)]))), (7, [], .v (.c (.own 5007))), (9, [], .v (.c (.ptr 9 0))), (10, [], .v (.c (.own 29))), (22, [], .v (.c (.p (.sl t3) l))), (23, [], .v (.c (.pI (l.length : Int)))), (24, [], .v (.c (.pI v24))), (46, [], .v (.c (.pS w))), (47, [], .v (.c (.pI (w.length : Int)))), (48, [], .v (.c (.pI v48)))], [(9, [], .box [.pI ((l.getD (v24).toNat z3).1), .pI ((l.getD (v24).toNat z3).2.1), .pI ((l.getD (v24).toNat z3).2.2)]), (29, [], .arr 39 (.int .u32) (rv.set ((v48).toNat) (bShl .u32 (1 : Int) (v48 + (1 : Int))))), (5007, [], .arr 92 (.sl (.int .u32)) all)]⟩ : St)) (by kernel_rfl) ⟨trivial, trivial, trivial, o1, o2, o3, trivial, trivial⟩ ?_
                      refine awl_nil ?_
                      exact rest6 (rv.set ((v48).toNat) (bShl .u32 (1 : Int) (v48 + (1 : Int)))) h
                    · have h := h.2 hb
                      refine aw_conv [.prune [1, 5, 6, 7, 9, 10, 22, 23, 24, 46, 47, 48] [9, 29, 5007]] (st' := (⟨155, [(1, [], .v (.c (.pS w))), (5, [], .v (.c (.ad (.int .i64) ((w.length : Int) + (1 : Int))))), (6, [], .v (.c (.fn 86 [(⟨(.int .i64), ((w.length : Int) + (1 : Int))⟩ : Dat)]))), (7, [], .v (.c (.own 5007))), (9, [], .v (.c (.ptr 9 0))), (10, [], .v (.c (.own 29))), (22, [], .v (.c (.p (.sl t3) l))), (23, [], .v (.c (.pI (l.length : Int)))), (24, [], .v (.c (.pI v24))), (46, [], .v (.c (.pS w))), (47, [], .v (.c (.pI (w.length : Int)))), (48, [], .v (.c (.pI v48)))], [(9, [], .box [.pI ((l.getD (v24).toNat z3).1), .pI ((l.getD (v24).toNat z3).2.1), .pI ((l.getD (v24).toNat z3).2.2)]), (29, [], .arr 39 (.int .u32) rv), (5007, [], .arr 92 (.sl (.int .u32)) all)]⟩ : St)) (by kernel_rfl) ?_
                      refine aw_skip ?_
                      exact rest6 rv h
                · have h := h.2 hb
                  refine aw_conv [.prune [1, 5, 6, 7, 10, 22, 23, 24] [29, 5007]] (st' := (⟨155, [(1, [], .v (.c (.pS w))), (5, [], .v (.c (.ad (.int .i64) ((w.length : Int) + (1 : Int))))), (6, [], .v (.c (.fn 86 [(⟨(.int .i64), ((w.length : Int) + (1 : Int))⟩ : Dat)]))), (7, [], .v (.c (.own 5007))), (10, [], .v (.c (.own 29))), (22, [], .v (.c (.p (.sl t3) l))), (23, [], .v (.c (.pI (l.length : Int)))), (24, [], .v (.c (.pI v24)))], [(29, [], .arr 39 (.int .u32) rv), (5007, [], .arr 92 (.sl (.int .u32)) all)]⟩ : St)) (by kernel_rfl) ?_
                  refine aw_exit ?_
                  refine thenQ_x ?_
                  refine thenQ_x ?_
                  refine blockQ_hit ?_
                  exact rest5 rv h
            · have h := h.2 hb
              refine aw_seq ?_
              refine aw_region ?_
              refine awl_runp 2 [1, 5, 6, 7, 9, 10, 22, 23, 24, 31, 64] [9, 29, 5007] (ob := (True ∧ True ∧ True)) (st' := (⟨155, [(1, [], .v (.c (.pS w))), (5, [], .v (.c (.ad (.int .i64) ((w.length : Int) + (1 : Int))))), (6, [], .v (.c (.fn 86 [(⟨(.int .i64), ((w.length : Int) + (1 : Int))⟩ : Dat)]))), (7, [], .v (.c (.own 5007))), (9, [], .v (.c (.ptr 9 0))), (10, [], .v (.c (.own 29))), (22, [], .v (.c (.p (.sl t3) l))), (23, [], .v (.c (.pI (l.length : Int)))), (24, [], .v (.c (.pI v24))), (31, [], .v (.c (.pI ((l.getD (v24).toNat z3).1)))), (64, [], .v (.c (.pB (decide ((l.getD (v24).toNat z3).1 = (4 : Int))))))], [(9, [], .box [.pI ((l.getD (v24).toNat z3).1), .pI ((l.getD (v24).toNat z3).2.1), .pI ((l.getD (v24).toNat z3).2.2)]), (29, [], .arr 39 (.int .u32) (List.replicate (((w.length : Int) + (1 : Int))).toNat (0 : Int))), (5007, [], .arr 92 (.sl (.int .u32)) all)]⟩ : St)) (by kernel_rfl) ⟨trivial, trivial, trivial⟩ ?_
              refine awl_nil ?_
              refine thenQ_n ?_
              refine withJoin (σ := LI) (fun s => (⟨155, [(1, [], .v (.c (.pS w))), (5, [], .v (.c (.ad (.int .i64) ((w.length : Int) + (1 : Int))))), (6, [], .v (.c (.fn 86 [(⟨(.int .i64), ((w.length : Int) + (1 : Int))⟩ : Dat)]))), (7, [], .v (.c (.own 5007))), (10, [], .v (.c (.own 29))), (22, [], .v (.c (.p (.sl t3) l))), (23, [], .v (.c (.pI (l.length : Int)))), (24, [], .v (.c (.pI v24)))], [(29, [], .arr 39 (.int .u32) s), (5007, [], .arr 92 (.sl (.int .u32)) all)]⟩ : St)) (fun s => VC46_k7 v24 all X1 s) (fun rv h => ?_) (fun rest7 => ?_)
              · have h : VC46_k7 v24 all X1 rv := h
                unfold VC46_k7 at h
                exact rest4 rv h
              · refine aw_cond (b := (decide ((l.getD (v24).toNat z3).1 = (4 : Int)))) (by kernel_rfl) (fun hb => ?_) (fun hb => ?_)
                · have h := h.1 hb
                  refine awd_begin [] (by kernel_rfl) ?_
                  obtain ⟨o1, o2, h⟩ := h
                  refine awd_runp (by kernel_rfl) [0, 1, 2, 3, 4, 5, 6, 7, 8, 9, 10] [1, 5, 6, 7, 10, 22, 23, 24, 66, 71, 76] [29, 5007] (ob := (True ∧ True ∧ True ∧ True ∧ inIdx ((l.getD (v24).toNat z3).2.1) all.length ∧ True ∧ True ∧ True ∧ True ∧ inIdx ((l.getD (v24).toNat z3).2.2) all.length ∧ True ∧ True)) (done' := [10, 9, 8, 7, 6, 5, 4, 3, 2, 1, 0]) (st' := (⟨155, [(1, [], .v (.c (.pS w))), (5, [], .v (.c (.ad (.int .i64) ((w.length : Int) + (1 : Int))))), (6, [], .v (.c (.fn 86 [(⟨(.int .i64), ((w.length : Int) + (1 : Int))⟩ : Dat)]))), (7, [], .v (.c (.own 5007))), (10, [], .v (.c (.own 29))), (22, [], .v (.c (.p (.sl t3) l))), (23, [], .v (.c (.pI (l.length : Int)))), (24, [], .v (.c (.pI v24))), (66, [], .v (.c (.fn 86 [(⟨(.int .i64), ((w.length : Int) + (1 : Int))⟩ : Dat)]))), (71, [], .v (.c (.p (.sl (.int .u32)) (all.getD (((l.getD (v24).toNat z3).2.1).toNat) ([] : LI))))), (76, [], .v (.c (.p (.sl (.int .u32)) (all.getD (((l.getD (v24).toNat z3).2.2).toNat) ([] : LI)))))], [(29, [], .arr 39 (.int .u32) (List.replicate (((w.length : Int) + (1 : Int))).toNat (0 : Int))), (5007, [], .arr 92 (.sl (.int .u32)) all)]⟩ : St)) (by kernel_rfl) ⟨trivial, trivial, trivial, trivial, o1, trivial, trivial, trivial, trivial, o2, trivial, trivial⟩ ?_
                  refine awd_one (i := 11) (by kernel_rfl) ?_
                  refine adop_callOk (e := 39) (t := (.int .u32)) (l := [toV1 (.sl (.int .u32)) (all.getD (((l.getD (v24).toNat z3).2.1).toNat) ([] : LI)), toV1 (.sl (.int .u32)) (all.getD (((l.getD (v24).toNat z3).2.2).toNat) ([] : LI))]) (cl := [.c (.ad (.int .i64) ((w.length : Int) + (1 : Int)))]) false [.d (.sl (.int .u32)), .d (.sl (.int .u32))] [1, 5, 6, 7, 10, 22, 23, 24, 77] [29, 77, 5007] (fun (ret77v : LI) => VC46_k7 v24 all X1 ret77v) (fun ret77v => (⟨155, [(1, [], .v (.c (.pS w))), (5, [], .v (.c (.ad (.int .i64) ((w.length : Int) + (1 : Int))))), (6, [], .v (.c (.fn 86 [(⟨(.int .i64), ((w.length : Int) + (1 : Int))⟩ : Dat)]))), (7, [], .v (.c (.own 5007))), (10, [], .v (.c (.own 29))), (22, [], .v (.c (.p (.sl t3) l))), (23, [], .v (.c (.pI (l.length : Int)))), (24, [], .v (.c (.pI v24))), (77, [], .v (.c (.own 77)))], [(29, [], .arr 39 (.int .u32) (List.replicate (((w.length : Int) + (1 : Int))).toNat (0 : Int))), (77, [], .arr 39 (.int .u32) ret77v), (5007, [], .arr 92 (.sl (.int .u32)) all)]⟩ : St)) rfl rfl rfl (by kernel_rfl) rfl (by kernel_rfl) Try.call86 (by kernel_rfl) (fun e => by cases e) (fun ret77v => by kernel_rfl) (link86 (all.getD (((l.getD (v24).toNat z3).2.1).toNat) ([] : LI)) (all.getD (((l.getD (v24).toNat z3).2.2).toNat) ([] : LI)) ((w.length : Int) + (1 : Int)) _ h) (fun ret77v h => ?_)
                  have h : VC46_k7 v24 all X1 ret77v := h
                  refine awd_runp (by kernel_rfl) [12] [1, 5, 6, 7, 10, 22, 23, 24] [77, 5007] (ob := (True ∧ True)) (done' := [12, 11, 10, 9, 8, 7, 6, 5, 4, 3, 2, 1, 0]) (st' := (⟨155, [(1, [], .v (.c (.pS w))), (5, [], .v (.c (.ad (.int .i64) ((w.length : Int) + (1 : Int))))), (6, [], .v (.c (.fn 86 [(⟨(.int .i64), ((w.length : Int) + (1 : Int))⟩ : Dat)]))), (7, [], .v (.c (.own 5007))), (10, [], .v (.c (.own 77))), (22, [], .v (.c (.p (.sl t3) l))), (23, [], .v (.c (.pI (l.length : Int)))), (24, [], .v (.c (.pI v24)))], [(77, [], .arr 39 (.int .u32) ret77v), (5007, [], .arr 92 (.sl (.int .u32)) all)]⟩ : St)) (by kernel_rfl) ⟨trivial, trivial⟩ ?_
                  refine awd_end [.ren 77 20077, .ren 20077 29] (st' := (⟨155, [(1, [], .v (.c (.pS w))), (5, [], .v (.c (.ad (.int .i64) ((w.length : Int) + (1 : Int))))), (6, [], .v (.c (.fn 86 [(⟨(.int .i64), ((w.length : Int) + (1 : Int))⟩ : Dat)]))), (7, [], .v (.c (.own 5007))), (10, [], .v (.c (.own 29))), (22, [], .v (.c (.p (.sl t3) l))), (23, [], .v (.c (.pI (l.length : Int)))), (24, [], .v (.c (.pI v24)))], [(29, [], .arr 39 (.int .u32) ret77v), (5007, [], .arr 92 (.sl (.int .u32)) all)]⟩ : St)) (by kernel_rfl) (by kernel_rfl) ?_
                  exact rest7 ret77v h
                · have h := h.2 hb
                  refine aw_seq ?_
                  refine aw_region ?_
                  refine awl_runp 2 [1, 5, 6, 7, 9, 10, 22, 23, 24, 31, 78] [9, 29, 5007] (ob := (True ∧ True ∧ True)) (st' := (⟨155, [(1, [], .v (.c (.pS w))), (5, [], .v (.c (.ad (.int .i64) ((w.length : Int) + (1 : Int))))), (6, [], .v (.c (.fn 86 [(⟨(.int .i64), ((w.length : Int) + (1 : Int))⟩ : Dat)]))), (7, [], .v (.c (.own 5007))), (9, [], .v (.c (.ptr 9 0))), (10, [], .v (.c (.own 29))), (22, [], .v (.c (.p (.sl t3) l))), (23, [], .v (.c (.pI (l.length : Int)))), (24, [], .v (.c (.pI v24))), (31, [], .v (.c (.pI ((l.getD (v24).toNat z3).1)))), (78, [], .v (.c (.pB (decide ((l.getD (v24).toNat z3).1 = (5 : Int))))))], [(9, [], .box [.pI ((l.getD (v24).toNat z3).1), .pI ((l.getD (v24).toNat z3).2.1), .pI ((l.getD (v24).toNat z3).2.2)]), (29, [], .arr 39 (.int .u32) (List.replicate (((w.length : Int) + (1 : Int))).toNat (0 : Int))), (5007, [], .arr 92 (.sl (.int .u32)) all)]⟩ : St)) (by kernel_rfl) ⟨trivial, trivial, trivial⟩ ?_
                  refine awl_nil ?_
                  refine thenQ_n ?_
                  refine withJoin (σ := LI) (fun s => (⟨155, [(1, [], .v (.c (.pS w))), (5, [], .v (.c (.ad (.int .i64) ((w.length : Int) + (1 : Int))))), (6, [], .v (.c (.fn 86 [(⟨(.int .i64), ((w.length : Int) + (1 : Int))⟩ : Dat)]))), (7, [], .v (.c (.own 5007))), (10, [], .v (.c (.own 29))), (22, [], .v (.c (.p (.sl t3) l))), (23, [], .v (.c (.pI (l.length : Int)))), (24, [], .v (.c (.pI v24)))], [(29, [], .arr 39 (.int .u32) s), (5007, [], .arr 92 (.sl (.int .u32)) all)]⟩ : St)) (fun s => VC46_k8 v24 all X1 s) (fun rv h => ?_) (fun rest8 => ?_)
                  · have h : VC46_k8 v24 all X1 rv := h
                    unfold VC46_k8 at h
                    exact rest7 rv h
                  · refine aw_cond (b := (decide ((l.getD (v24).toNat z3).1 = (5 : Int)))) (by kernel_rfl) (fun hb => ?_) (fun hb => ?_)
                    · have h := h.1 hb
                      refine aw_seq ?_
                      refine aw_region ?_
                      refine awl_runp 2 [1, 5, 6, 7, 9, 10, 22, 23, 24, 80, 81] [9, 29, 5007] (ob := (True ∧ True ∧ True)) (st' := (⟨155, [(1, [], .v (.c (.pS w))), (5, [], .v (.c (.ad (.int .i64) ((w.length : Int) + (1 : Int))))), (6, [], .v (.c (.fn 86 [(⟨(.int .i64), ((w.length : Int) + (1 : Int))⟩ : Dat)]))), (7, [], .v (.c (.own 5007))), (9, [], .v (.c (.ptr 9 0))), (10, [], .v (.c (.own 29))), (22, [], .v (.c (.p (.sl t3) l))), (23, [], .v (.c (.pI (l.length : Int)))), (24, [], .v (.c (.pI v24))), (80, [], .v (.c (.pI ((w.length : Int) + (1 : Int))))), (81, [], .v (.c (.pI (0 : Int))))], [(9, [], .box [.pI ((l.getD (v24).toNat z3).1), .pI ((l.getD (v24).toNat z3).2.1), .pI ((l.getD (v24).toNat z3).2.2)]), (29, [], .arr 39 (.int .u32) (List.replicate (((w.length : Int) + (1 : Int))).toNat (0 : Int))), (5007, [], .arr 92 (.sl (.int .u32)) all)]⟩ : St)) (by kernel_rfl) ⟨trivial, trivial, trivial⟩ ?_
                      refine awl_nil ?_
                      refine thenQ_n ?_
                      refine withJoin (σ := LI) (fun s => (⟨155, [(1, [], .v (.c (.pS w))), (5, [], .v (.c (.ad (.int .i64) ((w.length : Int) + (1 : Int))))), (6, [], .v (.c (.fn 86 [(⟨(.int .i64), ((w.length : Int) + (1 : Int))⟩ : Dat)]))), (7, [], .v (.c (.own 5007))), (10, [], .v (.c (.own 29))), (22, [], .v (.c (.p (.sl t3) l))), (23, [], .v (.c (.pI (l.length : Int)))), (24, [], .v (.c (.pI v24)))], [(29, [], .arr 39 (.int .u32) s), (5007, [], .arr 92 (.sl (.int .u32)) all)]⟩ : St)) (fun s => VC46_k9 v24 all X1 s) (fun rv h => ?_) (fun rest9 => ?_)
                      · have h : VC46_k9 v24 all X1 rv := h
                        unfold VC46_k9 at h
                        exact rest8 rv h
                      · refine aw_block ?_
                        refine aw_loop (σ := Int × LI) (fun s => (⟨155, [(1, [], .v (.c (.pS w))), (5, [], .v (.c (.ad (.int .i64) ((w.length : Int) + (1 : Int))))), (6, [], .v (.c (.fn 86 [(⟨(.int .i64), ((w.length : Int) + (1 : Int))⟩ : Dat)]))), (7, [], .v (.c (.own 5007))), (9, [], .v (.c (.ptr 9 0))), (10, [], .v (.c (.own 29))), (22, [], .v (.c (.p (.sl t3) l))), (23, [], .v (.c (.pI (l.length : Int)))), (24, [], .v (.c (.pI v24))), (80, [], .v (.c (.pI ((w.length : Int) + (1 : Int))))), (81, [], .v (.c (.pI s.1)))], [(9, [], .box [.pI ((l.getD (v24).toNat z3).1), .pI ((l.getD (v24).toNat z3).2.1), .pI ((l.getD (v24).toNat z3).2.2)]), (29, [], .arr 39 (.int .u32) s.2), (5007, [], .arr 92 (.sl (.int .u32)) all)]⟩ : St)) (fun s X => VC46_l4 l w v24 all X1 s.1 s.2 X) (s0 := ((0 : Int), (List.replicate (((w.length : Int) + (1 : Int))).toNat (0 : Int)))) (fun s X4 h => ?_) h
                        obtain ⟨v81, rv⟩ := s
                        have h : VC46_l4 l w v24 all X1 v81 rv X4 := h
                        unfold VC46_l4 at h
                        refine aw_seq ?_
                        refine aw_region ?_
                        refine awl_runp 1 [1, 5, 6, 7, 9, 10, 22, 23, 24, 80, 81, 82] [9, 29, 5007] (ob := (True ∧ True)) (st' := (⟨155, [(1, [], .v (.c (.pS w))), (5, [], .v (.c (.ad (.int .i64) ((w.length : Int) + (1 : Int))))), (6, [], .v (.c (.fn 86 [(⟨(.int .i64), ((w.length : Int) + (1 : Int))⟩ : Dat)]))), (7, [], .v (.c (.own 5007))), (9, [], .v (.c (.ptr 9 0))), (10, [], .v (.c (.own 29))), (22, [], .v (.c (.p (.sl t3) l))), (23, [], .v (.c (.pI (l.length : Int)))), (24, [], .v (.c (.pI v24))), (80, [], .v (.c (.pI ((w.length : Int) + (1 : Int))))), (81, [], .v (.c (.pI v81))), (82, [], .v (.c (.pB (decide (v81 < ((w.length : Int) + (1 : Int)))))))], [(9, [], .box [.pI ((l.getD (v24).toNat z3).1), .pI ((l.getD (v24).toNat z3).2.1), .pI ((l.getD (v24).toNat z3).2.2)]), (29, [], .arr 39 (.int .u32) rv), (5007, [], .arr 92 (.sl (.int .u32)) all)]⟩ : St)) (by kernel_rfl) ⟨trivial, trivial⟩ ?_
                        refine awl_nil ?_
                        refine thenQ_n ?_
                        refine aw_seq ?_
                        refine aw_cond (b := (decide (v81 < ((w.length : Int) + (1 : Int))))) (by kernel_rfl) (fun hb => ?_) (fun hb => ?_)
                        · have h := h.1 hb
                          refine aw_skip ?_
                          refine thenQ_n ?_
                          refine aw_seq ?_
                          refine aw_block ?_
                          refine aw_seq ?_
                          refine aw_region ?_
                          refine awl_runp 2 [1, 5, 6, 7, 9, 10, 14, 22, 23, 24, 80, 81] [9, 29, 5007] (ob := (True ∧ True ∧ True)) (st' := (⟨155, [(1, [], .v (.c (.pS w))), (5, [], .v (.c (.ad (.int .i64) ((w.length : Int) + (1 : Int))))), (6, [], .v (.c (.fn 86 [(⟨(.int .i64), ((w.length : Int) + (1 : Int))⟩ : Dat)]))), (7, [], .v (.c (.own 5007))), (9, [], .v (.c (.ptr 9 0))), (10, [], .v (.c (.own 29))), (14, [], .v (.c (.pI v81))), (22, [], .v (.c (.p (.sl t3) l))), (23, [], .v (.c (.pI (l.length : Int)))), (24, [], .v (.c (.pI v24))), (80, [], .v (.c (.pI ((w.length : Int) + (1 : Int))))), (81, [], .v (.c (.pI v81)))], [(9, [], .box [.pI ((l.getD (v24).toNat z3).1), .pI ((l.getD (v24).toNat z3).2.1), .pI ((l.getD (v24).toNat z3).2.2)]), (29, [], .arr 39 (.int .u32) rv), (5007, [], .arr 92 (.sl (.int .u32)) all)]⟩ : St)) (by kernel_rfl) ⟨trivial, trivial, trivial⟩ ?_
                          refine awl_nil ?_
                          refine thenQ_n ?_
                          refine awd_begin [29] (by kernel_rfl) ?_
                          obtain ⟨o1, o2, o3, o4, o5, h⟩ := h
                          refine awd_runp (by kernel_rfl) [0, 1, 2, 3, 4, 5, 6, 7, 8, 9, 10, 11, 12, 13, 14, 15, 16, 17, 18, 19] [1, 5, 6, 7, 9, 10, 22, 23, 24, 80, 81, 102, 103] [9, 29, 5007] (ob := (True ∧ True ∧ True ∧ True ∧ True ∧ inIdx ((l.getD (v24).toNat z3).2.1) all.length ∧ True ∧ True ∧ inIdx v81 (all.getD (((l.getD (v24).toNat z3).2.1).toNat) ([] : LI)).length ∧ True ∧ True ∧ True ∧ True ∧ inIdx ((l.getD (v24).toNat z3).2.2) all.length ∧ True ∧ True ∧ inIdx v81 (all.getD (((l.getD (v24).toNat z3).2.2).toNat) ([] : LI)).length ∧ True ∧ True ∧ inIdx v81 rv.length ∧ True)) (done' := [19, 18, 17, 16, 15, 14, 13, 12, 11, 10, 9, 8, 7, 6, 5, 4, 3, 2, 1, 0]) (st' := (⟨155, [(1, [], .v (.c (.pS w))), (5, [], .v (.c (.ad (.int .i64) ((w.length : Int) + (1 : Int))))), (6, [], .v (.c (.fn 86 [(⟨(.int .i64), ((w.length : Int) + (1 : Int))⟩ : Dat)]))), (7, [], .v (.c (.own 5007))), (9, [], .v (.c (.ptr 9 0))), (10, [], .v (.c (.own 29))), (22, [], .v (.c (.p (.sl t3) l))), (23, [], .v (.c (.pI (l.length : Int)))), (24, [], .v (.c (.pI v24))), (80, [], .v (.c (.pI ((w.length : Int) + (1 : Int))))), (81, [], .v (.c (.pI v81))), (102, [], .v (.c (.p (.int .u32) (bOr .u32 ((all.getD (((l.getD (v24).toNat z3).2.1).toNat) ([] : LI)).getD (v81).toNat (0 : Int)) ((all.getD (((l.getD (v24).toNat z3).2.2).toNat) ([] : LI)).getD (v81).toNat (0 : Int)))))), (103, [], .v (.c (.el 29 ((v81).toNat) 1)))], [(9, [], .box [.pI ((l.getD (v24).toNat z3).1), .pI ((l.getD (v24).toNat z3).2.1), .pI ((l.getD (v24).toNat z3).2.2)]), (29, [], .arr 39 (.int .u32) rv), (5007, [], .arr 92 (.sl (.int .u32)) all)]⟩ : St)) (by kernel_rfl) ⟨trivial, trivial, trivial, trivial, trivial, o1, trivial, trivial, o2, trivial, trivial, trivial, trivial, o3, trivial, trivial, o4, trivial, trivial, o5, trivial⟩ ?_
                          refine awd_one (i := 20) (by kernel_rfl) ?_
                          refine adop_stepp [1, 5, 6, 7, 9, 10, 22, 23, 24, 80, 81] [9, 29, 5007] (ob := True) (st' := (⟨155, [(1, [], .v (.c (.pS w))), (5, [], .v (.c (.ad (.int .i64) ((w.length : Int) + (1 : Int))))), (6, [], .v (.c (.fn 86 [(⟨(.int .i64), ((w.length : Int) + (1 : Int))⟩ : Dat)]))), (7, [], .v (.c (.own 5007))), (9, [], .v (.c (.ptr 9 0))), (10, [], .v (.c (.own 29))), (22, [], .v (.c (.p (.sl t3) l))), (23, [], .v (.c (.pI (l.length : Int)))), (24, [], .v (.c (.pI v24))), (80, [], .v (.c (.pI ((w.length : Int) + (1 : Int))))), (81, [], .v (.c (.pI v81)))], [(9, [], .box [.pI ((l.getD (v24).toNat z3).1), .pI ((l.getD (v24).toNat z3).2.1), .pI ((l.getD (v24).toNat z3).2.2)]), (29, [], .arr 39 (.int .u32) (rv.set ((v81).toNat) (bOr .u32 ((all.getD (((l.getD (v24).toNat z3).2.1).toNat) ([] : LI)).getD (v81).toNat (0 : Int)) ((all.getD (((l.getD (v24).toNat z3).2.2).toNat) ([] : LI)).getD (v81).toNat (0 : Int))))), (5007, [], .arr 92 (.sl (.int .u32)) all)]⟩ : St)) rfl (by kernel_rfl) trivial ?_
                          refine awd_done (by kernel_rfl) ?_
                          refine blockQ_n ?_
                          refine thenQ_n ?_
                          refine aw_region ?_
                          obtain ⟨o1, h⟩ := h
                          refine awl_runp 2 [1, 5, 6, 7, 9, 10, 22, 23, 24, 80, 81] [9, 29, 5007] (ob := (InR (v81 + (1 : Int)) ∧ True ∧ True)) (st' := (⟨155, [(1, [], .v (.c (.pS w))), (5, [], .v (.c (.ad (.int .i64) ((w.length : Int) + (1 : Int))))), (6, [], .v (.c (.fn 86 [(⟨(.int .i64), ((w.length : Int) + (1 : Int))⟩ : Dat)]))), (7, [], .v (.c (.own 5007))), (9, [], .v (.c (.ptr 9 0))), (10, [], .v (.c (.own 29))), (22, [], .v (.c (.p (.sl t3) l))), (23, [], .v (.c (.pI (l.length : Int)))), (24, [], .v (.c (.pI v24))), (80, [], .v (.c (.pI ((w.length : Int) + (1 : Int))))), (81, [], .v (.c (.pI (v81 + (1 : Int)))))], [(9, [], .box [.pI ((l.getD (v24).toNat z3).1), .pI ((l.getD (v24).toNat z3).2.1), .pI ((l.getD (v24).toNat z3).2.2)]), (29, [], .arr 39 (.int .u32) (rv.set ((v81).toNat) (bOr .u32 ((all.getD (((l.getD (v24).toNat z3).2.1).toNat) ([] : LI)).getD (v81).toNat (0 : Int)) ((all.getD (((l.getD (v24).toNat z3).2.2).toNat) ([] : LI)).getD (v81).toNat (0 : Int))))), (5007, [], .arr 92 (.sl (.int .u32)) all)]⟩ : St)) (by kernel_rfl) ⟨o1, trivial, trivial⟩ ?_
                          refine awl_nil ?_
                          exact thenQ_n ⟨((v81 + (1 : Int)), (rv.set ((v81).toNat) (bOr .u32 ((all.getD (((l.getD (v24).toNat z3).2.1).toNat) ([] : LI)).getD (v81).toNat (0 : Int)) ((all.getD (((l.getD (v24).toNat z3).2.2).toNat) ([] : LI)).getD (v81).toNat (0 : Int))))), rfl, h⟩
                        · have h := h.2 hb
                          refine aw_conv [.prune [1, 5, 6, 7, 10, 22, 23, 24] [29, 5007]] (st' := (⟨155, [(1, [], .v (.c (.pS w))), (5, [], .v (.c (.ad (.int .i64) ((w.length : Int) + (1 : Int))))), (6, [], .v (.c (.fn 86 [(⟨(.int .i64), ((w.length : Int) + (1 : Int))⟩ : Dat)]))), (7, [], .v (.c (.own 5007))), (10, [], .v (.c (.own 29))), (22, [], .v (.c (.p (.sl t3) l))), (23, [], .v (.c (.pI (l.length : Int)))), (24, [], .v (.c (.pI v24)))], [(29, [], .arr 39 (.int .u32) rv), (5007, [], .arr 92 (.sl (.int .u32)) all)]⟩ : St)) (by kernel_rfl) ?_
                          refine aw_exit ?_
                          refine thenQ_x ?_
                          refine thenQ_x ?_
                          refine blockQ_hit ?_
                          exact rest9 rv h
                    · have h := h.2 hb
                      refine aw_seq ?_
                      refine aw_region ?_
                      refine awl_runp 2 [1, 5, 6, 7, 9, 10, 22, 23, 24, 105] [9, 29, 5007] (ob := (True ∧ True ∧ True)) (st' := (⟨155, [(1, [], .v (.c (.pS w))), (5, [], .v (.c (.ad (.int .i64) ((w.length : Int) + (1 : Int))))), (6, [], .v (.c (.fn 86 [(⟨(.int .i64), ((w.length : Int) + (1 : Int))⟩ : Dat)]))), (7, [], .v (.c (.own 5007))), (9, [], .v (.c (.ptr 9 0))), (10, [], .v (.c (.own 29))), (22, [], .v (.c (.p (.sl t3) l))), (23, [], .v (.c (.pI (l.length : Int)))), (24, [], .v (.c (.pI v24))), (105, [], .v (.c (.pB (decide ((l.getD (v24).toNat z3).1 = (6 : Int))))))], [(9, [], .box [.pI ((l.getD (v24).toNat z3).1), .pI ((l.getD (v24).toNat z3).2.1), .pI ((l.getD (v24).toNat z3).2.2)]), (29, [], .arr 39 (.int .u32) (List.replicate (((w.length : Int) + (1 : Int))).toNat (0 : Int))), (5007, [], .arr 92 (.sl (.int .u32)) all)]⟩ : St)) (by kernel_rfl) ⟨trivial, trivial, trivial⟩ ?_
                      refine awl_nil ?_
                      refine thenQ_n ?_
                      refine withJoin (σ := LI) (fun s => (⟨155, [(1, [], .v (.c (.pS w))), (5, [], .v (.c (.ad (.int .i64) ((w.length : Int) + (1 : Int))))), (6, [], .v (.c (.fn 86 [(⟨(.int .i64), ((w.length : Int) + (1 : Int))⟩ : Dat)]))), (7, [], .v (.c (.own 5007))), (10, [], .v (.c (.own 29))), (22, [], .v (.c (.p (.sl t3) l))), (23, [], .v (.c (.pI (l.length : Int)))), (24, [], .v (.c (.pI v24)))], [(29, [], .arr 39 (.int .u32) s), (5007, [], .arr 92 (.sl (.int .u32)) all)]⟩ : St)) (fun s => VC46_k10 v24 all X1 s) (fun rv h => ?_) (fun rest10 => ?_)
                      · have h : VC46_k10 v24 all X1 rv := h
                        unfold VC46_k10 at h
                        exact rest8 rv h
                      · refine aw_cond (b := (decide ((l.getD (v24).toNat z3).1 = (6 : Int)))) (by kernel_rfl) (fun hb => ?_) (fun hb => ?_)
                        · have h := h.1 hb
                          refine aw_seq ?_
                          refine aw_seq ?_
                          refine aw_region ?_
                          refine awl_runp 2 [1, 5, 6, 7, 9, 10, 22, 23, 24, 107, 108] [9, 29, 5007] (ob := (True ∧ True ∧ True)) (st' := (⟨155, [(1, [], .v (.c (.pS w))), (5, [], .v (.c (.ad (.int .i64) ((w.length : Int) + (1 : Int))))), (6, [], .v (.c (.fn 86 [(⟨(.int .i64), ((w.length : Int) + (1 : Int))⟩ : Dat)]))), (7, [], .v (.c (.own 5007))), (9, [], .v (.c (.ptr 9 0))), (10, [], .v (.c (.own 29))), (22, [], .v (.c (.p (.sl t3) l))), (23, [], .v (.c (.pI (l.length : Int)))), (24, [], .v (.c (.pI v24))), (107, [], .v (.c (.pI ((w.length : Int) + (1 : Int))))), (108, [], .v (.c (.pI (0 : Int))))], [(9, [], .box [.pI ((l.getD (v24).toNat z3).1), .pI ((l.getD (v24).toNat z3).2.1), .pI ((l.getD (v24).toNat z3).2.2)]), (29, [], .arr 39 (.int .u32) (List.replicate (((w.length : Int) + (1 : Int))).toNat (0 : Int))), (5007, [], .arr 92 (.sl (.int .u32)) all)]⟩ : St)) (by kernel_rfl) ⟨trivial, trivial, trivial⟩ ?_
                          refine awl_nil ?_
                          refine thenQ_n ?_
                          refine withJoin (σ := LI) (fun s => (⟨155, [(1, [], .v (.c (.pS w))), (5, [], .v (.c (.ad (.int .i64) ((w.length : Int) + (1 : Int))))), (6, [], .v (.c (.fn 86 [(⟨(.int .i64), ((w.length : Int) + (1 : Int))⟩ : Dat)]))), (7, [], .v (.c (.own 5007))), (9, [], .v (.c (.ptr 9 0))), (10, [], .v (.c (.own 29))), (22, [], .v (.c (.p (.sl t3) l))), (23, [], .v (.c (.pI (l.length : Int)))), (24, [], .v (.c (.pI v24)))], [(9, [], .box [.pI ((l.getD (v24).toNat z3).1), .pI ((l.getD (v24).toNat z3).2.1), .pI ((l.getD (v24).toNat z3).2.2)]), (29, [], .arr 39 (.int .u32) s), (5007, [], .arr 92 (.sl (.int .u32)) all)]⟩ : St)) (fun s => VC46_k11 l w v24 all X1 s) (fun rv h => ?_) (fun rest13 => ?_)
                          · have h : VC46_k11 l w v24 all X1 rv := h
                            unfold VC46_k11 at h
                            refine thenQ_n ?_
                            refine aw_seq ?_
                            refine aw_region ?_
                            refine awl_runp 2 [1, 5, 6, 7, 9, 10, 22, 23, 24, 117, 118] [9, 29, 5007] (ob := (True ∧ True ∧ True)) (st' := (⟨155, [(1, [], .v (.c (.pS w))), (5, [], .v (.c (.ad (.int .i64) ((w.length : Int) + (1 : Int))))), (6, [], .v (.c (.fn 86 [(⟨(.int .i64), ((w.length : Int) + (1 : Int))⟩ : Dat)]))), (7, [], .v (.c (.own 5007))), (9, [], .v (.c (.ptr 9 0))), (10, [], .v (.c (.own 29))), (22, [], .v (.c (.p (.sl t3) l))), (23, [], .v (.c (.pI (l.length : Int)))), (24, [], .v (.c (.pI v24))), (117, [], .v (.c (.pI ((w.length : Int) + (1 : Int))))), (118, [], .v (.c (.pI (0 : Int))))], [(9, [], .box [.pI ((l.getD (v24).toNat z3).1), .pI ((l.getD (v24).toNat z3).2.1), .pI ((l.getD (v24).toNat z3).2.2)]), (29, [], .arr 39 (.int .u32) rv), (5007, [], .arr 92 (.sl (.int .u32)) all)]⟩ : St)) (by kernel_rfl) ⟨trivial, trivial, trivial⟩ ?_
                            refine awl_nil ?_
                            refine thenQ_n ?_
                            refine withJoin (σ := LI) (fun s => (⟨155, [(1, [], .v (.c (.pS w))), (5, [], .v (.c (.ad (.int .i64) ((w.length : Int) + (1 : Int))))), (6, [], .v (.c (.fn 86 [(⟨(.int .i64), ((w.length : Int) + (1 : Int))⟩ : Dat)]))), (7, [], .v (.c (.own 5007))), (10, [], .v (.c (.own 29))), (22, [], .v (.c (.p (.sl t3) l))), (23, [], .v (.c (.pI (l.length : Int)))), (24, [], .v (.c (.pI v24)))], [(29, [], .arr 39 (.int .u32) s), (5007, [], .arr 92 (.sl (.int .u32)) all)]⟩ : St)) (fun s => VC46_k12 v24 all X1 s) (fun rv2 h => ?_) (fun rest11 => ?_)
                            · have h : VC46_k12 v24 all X1 rv2 := h
                              unfold VC46_k12 at h
                              exact rest10 rv2 h
                            · refine aw_block ?_
                              refine aw_loop (σ := Int × LI) (fun s => (⟨155, [(1, [], .v (.c (.pS w))), (5, [], .v (.c (.ad (.int .i64) ((w.length : Int) + (1 : Int))))), (6, [], .v (.c (.fn 86 [(⟨(.int .i64), ((w.length : Int) + (1 : Int))⟩ : Dat)]))), (7, [], .v (.c (.own 5007))), (9, [], .v (.c (.ptr 9 0))), (10, [], .v (.c (.own 29))), (22, [], .v (.c (.p (.sl t3) l))), (23, [], .v (.c (.pI (l.length : Int)))), (24, [], .v (.c (.pI v24))), (117, [], .v (.c (.pI ((w.length : Int) + (1 : Int))))), (118, [], .v (.c (.pI s.1)))], [(9, [], .box [.pI ((l.getD (v24).toNat z3).1), .pI ((l.getD (v24).toNat z3).2.1), .pI ((l.getD (v24).toNat z3).2.2)]), (29, [], .arr 39 (.int .u32) s.2), (5007, [], .arr 92 (.sl (.int .u32)) all)]⟩ : St)) (fun s X => VC46_l5 l w v24 all X1 s.1 s.2 X) (s0 := ((0 : Int), rv)) (fun s X5 h => ?_) h
                              obtain ⟨v118, rv2⟩ := s
                              have h : VC46_l5 l w v24 all X1 v118 rv2 X5 := h
                              unfold VC46_l5 at h
                              refine aw_seq ?_
                              refine aw_region ?_
                              refine awl_runp 1 [1, 5, 6, 7, 9, 10, 22, 23, 24, 117, 118, 119] [9, 29, 5007] (ob := (True ∧ True)) (st' := (⟨155, [(1, [], .v (.c (.pS w))), (5, [], .v (.c (.ad (.int .i64) ((w.length : Int) + (1 : Int))))), (6, [], .v (.c (.fn 86 [(⟨(.int .i64), ((w.length : Int) + (1 : Int))⟩ : Dat)]))), (7, [], .v (.c (.own 5007))), (9, [], .v (.c (.ptr 9 0))), (10, [], .v (.c (.own 29))), (22, [], .v (.c (.p (.sl t3) l))), (23, [], .v (.c (.pI (l.length : Int)))), (24, [], .v (.c (.pI v24))), (117, [], .v (.c (.pI ((w.length : Int) + (1 : Int))))), (118, [], .v (.c (.pI v118))), (119, [], .v (.c (.pB (decide (v118 < ((w.length : Int) + (1 : Int)))))))], [(9, [], .box [.pI ((l.getD (v24).toNat z3).1), .pI ((l.getD (v24).toNat z3).2.1), .pI ((l.getD (v24).toNat z3).2.2)]), (29, [], .arr 39 (.int .u32) rv2), (5007, [], .arr 92 (.sl (.int .u32)) all)]⟩ : St)) (by kernel_rfl) ⟨trivial, trivial⟩ ?_
                              refine awl_nil ?_
                              refine thenQ_n ?_
                              refine aw_seq ?_
                              refine aw_cond (b := (decide (v118 < ((w.length : Int) + (1 : Int))))) (by kernel_rfl) (fun hb => ?_) (fun hb => ?_)
                              · have h := h.1 hb
                                refine aw_skip ?_
                                refine thenQ_n ?_
                                refine aw_seq ?_
                                refine aw_block ?_
                                refine aw_seq ?_
                                refine aw_region ?_
                                obtain ⟨o1, h⟩ := h
                                refine awl_runp 7 [1, 5, 6, 7, 9, 10, 22, 23, 24, 117, 118, 120, 121, 126] [9, 29, 5007] (ob := (True ∧ True ∧ True ∧ True ∧ True ∧ inIdx ((l.getD (v24).toNat z3).2.1) all.length ∧ True ∧ True)) (st' := (⟨155, [(1, [], .v (.c (.pS w))), (5, [], .v (.c (.ad (.int .i64) ((w.length : Int) + (1 : Int))))), (6, [], .v (.c (.fn 86 [(⟨(.int .i64), ((w.length : Int) + (1 : Int))⟩ : Dat)]))), (7, [], .v (.c (.own 5007))), (9, [], .v (.c (.ptr 9 0))), (10, [], .v (.c (.own 29))), (22, [], .v (.c (.p (.sl t3) l))), (23, [], .v (.c (.pI (l.length : Int)))), (24, [], .v (.c (.pI v24))), (117, [], .v (.c (.pI ((w.length : Int) + (1 : Int))))), (118, [], .v (.c (.pI v118))), (120, [], .v (.c (.fn 86 [(⟨(.int .i64), ((w.length : Int) + (1 : Int))⟩ : Dat)]))), (121, [], .v (.c (.own 29))), (126, [], .v (.c (.p (.sl (.int .u32)) (all.getD (((l.getD (v24).toNat z3).2.1).toNat) ([] : LI)))))], [(9, [], .box [.pI ((l.getD (v24).toNat z3).1), .pI ((l.getD (v24).toNat z3).2.1), .pI ((l.getD (v24).toNat z3).2.2)]), (29, [], .arr 39 (.int .u32) rv2), (5007, [], .arr 92 (.sl (.int .u32)) all)]⟩ : St)) (by kernel_rfl) ⟨trivial, trivial, trivial, trivial, trivial, o1, trivial, trivial⟩ ?_
                                refine awl_callOk (e := 39) (t := (.int .u32)) (l := [toV1 (.sl (.int .u32)) rv2, toV1 (.sl (.int .u32)) (all.getD (((l.getD (v24).toNat z3).2.1).toNat) ([] : LI))]) (cl := [.c (.ad (.int .i64) ((w.length : Int) + (1 : Int)))]) true [.d (.sl (.int .u32)), .d (.sl (.int .u32))] [1, 5, 6, 7, 9, 10, 22, 23, 24, 117, 118, 127] [9, 29, 127, 5007] (fun (ret127v : LI) => Loop (σ := Int × LI) (fun s X => VC46_l6 w v118 X5 ret127v s.1 s.2 X) ((0 : Int), rv2)) (fun ret127v => (⟨155, [(1, [], .v (.c (.pS w))), (5, [], .v (.c (.ad (.int .i64) ((w.length : Int) + (1 : Int))))), (6, [], .v (.c (.fn 86 [(⟨(.int .i64), ((w.length : Int) + (1 : Int))⟩ : Dat)]))), (7, [], .v (.c (.own 5007))), (9, [], .v (.c (.ptr 9 0))), (10, [], .v (.c (.own 29))), (22, [], .v (.c (.p (.sl t3) l))), (23, [], .v (.c (.pI (l.length : Int)))), (24, [], .v (.c (.pI v24))), (117, [], .v (.c (.pI ((w.length : Int) + (1 : Int))))), (118, [], .v (.c (.pI v118))), (127, [], .v (.c (.own 127)))], [(9, [], .box [.pI ((l.getD (v24).toNat z3).1), .pI ((l.getD (v24).toNat z3).2.1), .pI ((l.getD (v24).toNat z3).2.2)]), (29, [], .arr 39 (.int .u32) rv2), (127, [], .arr 39 (.int .u32) ret127v), (5007, [], .arr 92 (.sl (.int .u32)) all)]⟩ : St)) rfl rfl (by kernel_rfl) rfl (by kernel_rfl) Try.call86 (by kernel_rfl) (fun _ => rfl) (fun ret127v => by kernel_rfl) (link86 rv2 (all.getD (((l.getD (v24).toNat z3).2.1).toNat) ([] : LI)) ((w.length : Int) + (1 : Int)) _ h) (fun ret127v h => ?_)
                                have h : Loop (σ := Int × LI) (fun s X => VC46_l6 w v118 X5 ret127v s.1 s.2 X) ((0 : Int), rv2) := h
                                refine awl_runp 1 [1, 5, 6, 7, 9, 10, 16, 22, 23, 24, 117, 118] [9, 29, 127, 5007] (ob := (True ∧ True)) (st' := (⟨155, [(1, [], .v (.c (.pS w))), (5, [], .v (.c (.ad (.int .i64) ((w.length : Int) + (1 : Int))))), (6, [], .v (.c (.fn 86 [(⟨(.int .i64), ((w.length : Int) + (1 : Int))⟩ : Dat)]))), (7, [], .v (.c (.own 5007))), (9, [], .v (.c (.ptr 9 0))), (10, [], .v (.c (.own 29))), (16, [], .v (.c (.own 127))), (22, [], .v (.c (.p (.sl t3) l))), (23, [], .v (.c (.pI (l.length : Int)))), (24, [], .v (.c (.pI v24))), (117, [], .v (.c (.pI ((w.length : Int) + (1 : Int))))), (118, [], .v (.c (.pI v118)))], [(9, [], .box [.pI ((l.getD (v24).toNat z3).1), .pI ((l.getD (v24).toNat z3).2.1), .pI ((l.getD (v24).toNat z3).2.2)]), (29, [], .arr 39 (.int .u32) rv2), (127, [], .arr 39 (.int .u32) ret127v), (5007, [], .arr 92 (.sl (.int .u32)) all)]⟩ : St)) (by kernel_rfl) ⟨trivial, trivial⟩ ?_
                                refine awl_nil ?_
                                refine thenQ_n ?_
                                refine aw_seq ?_
                                refine aw_region ?_
                                refine awl_runp 2 [1, 5, 6, 7, 9, 10, 16, 22, 23, 24, 117, 118, 128, 129] [9, 29, 127, 5007] (ob := (True ∧ True ∧ True)) (st' := (⟨155, [(1, [], .v (.c (.pS w))), (5, [], .v (.c (.ad (.int .i64) ((w.length : Int) + (1 : Int))))), (6, [], .v (.c (.fn 86 [(⟨(.int .i64), ((w.length : Int) + (1 : Int))⟩ : Dat)]))), (7, [], .v (.c (.own 5007))), (9, [], .v (.c (.ptr 9 0))), (10, [], .v (.c (.own 29))), (16, [], .v (.c (.own 127))), (22, [], .v (.c (.p (.sl t3) l))), (23, [], .v (.c (.pI (l.length : Int)))), (24, [], .v (.c (.pI v24))), (117, [], .v (.c (.pI ((w.length : Int) + (1 : Int))))), (118, [], .v (.c (.pI v118))), (128, [], .v (.c (.pI ((w.length : Int) + (1 : Int))))), (129, [], .v (.c (.pI (0 : Int))))], [(9, [], .box [.pI ((l.getD (v24).toNat z3).1), .pI ((l.getD (v24).toNat z3).2.1), .pI ((l.getD (v24).toNat z3).2.2)]), (29, [], .arr 39 (.int .u32) rv2), (127, [], .arr 39 (.int .u32) ret127v), (5007, [], .arr 92 (.sl (.int .u32)) all)]⟩ : St)) (by kernel_rfl) ⟨trivial, trivial, trivial⟩ ?_
                                refine awl_nil ?_
                                refine thenQ_n ?_
                                refine withJoin (σ := LI) (fun s => (⟨155, [(1, [], .v (.c (.pS w))), (5, [], .v (.c (.ad (.int .i64) ((w.length : Int) + (1 : Int))))), (6, [], .v (.c (.fn 86 [(⟨(.int .i64), ((w.length : Int) + (1 : Int))⟩ : Dat)]))), (7, [], .v (.c (.own 5007))), (9, [], .v (.c (.ptr 9 0))), (10, [], .v (.c (.own 29))), (22, [], .v (.c (.p (.sl t3) l))), (23, [], .v (.c (.pI (l.length : Int)))), (24, [], .v (.c (.pI v24))), (117, [], .v (.c (.pI ((w.length : Int) + (1 : Int))))), (118, [], .v (.c (.pI v118)))], [(9, [], .box [.pI ((l.getD (v24).toNat z3).1), .pI ((l.getD (v24).toNat z3).2.1), .pI ((l.getD (v24).toNat z3).2.2)]), (29, [], .arr 39 (.int .u32) s), (5007, [], .arr 92 (.sl (.int .u32)) all)]⟩ : St)) (fun s => VC46_k13 v118 X5 s) (fun rv3 h => ?_) (fun rest12 => ?_)
                                · have h : VC46_k13 v118 X5 rv3 := h
                                  unfold VC46_k13 at h
                                  refine blockQ_n ?_
                                  refine thenQ_n ?_
                                  refine aw_region ?_
                                  obtain ⟨o1, h⟩ := h
                                  refine awl_runp 2 [1, 5, 6, 7, 9, 10, 22, 23, 24, 117, 118] [9, 29, 5007] (ob := (InR (v118 + (1 : Int)) ∧ True ∧ True)) (st' := (⟨155, [(1, [], .v (.c (.pS w))), (5, [], .v (.c (.ad (.int .i64) ((w.length : Int) + (1 : Int))))), (6, [], .v (.c (.fn 86 [(⟨(.int .i64), ((w.length : Int) + (1 : Int))⟩ : Dat)]))), (7, [], .v (.c (.own 5007))), (9, [], .v (.c (.ptr 9 0))), (10, [], .v (.c (.own 29))), (22, [], .v (.c (.p (.sl t3) l))), (23, [], .v (.c (.pI (l.length : Int)))), (24, [], .v (.c (.pI v24))), (117, [], .v (.c (.pI ((w.length : Int) + (1 : Int))))), (118, [], .v (.c (.pI (v118 + (1 : Int)))))], [(9, [], .box [.pI ((l.getD (v24).toNat z3).1), .pI ((l.getD (v24).toNat z3).2.1), .pI ((l.getD (v24).toNat z3).2.2)]), (29, [], .arr 39 (.int .u32) rv3), (5007, [], .arr 92 (.sl (.int .u32)) all)]⟩ : St)) (by kernel_rfl) ⟨o1, trivial, trivial⟩ ?_
                                  refine awl_nil ?_
                                  exact thenQ_n ⟨((v118 + (1 : Int)), rv3), rfl, h⟩
                                · refine aw_block ?_
                                  refine aw_loop (σ := Int × LI) (fun s => (⟨155, [(1, [], .v (.c (.pS w))), (5, [], .v (.c (.ad (.int .i64) ((w.length : Int) + (1 : Int))))), (6, [], .v (.c (.fn 86 [(⟨(.int .i64), ((w.length : Int) + (1 : Int))⟩ : Dat)]))), (7, [], .v (.c (.own 5007))), (9, [], .v (.c (.ptr 9 0))), (10, [], .v (.c (.own 29))), (16, [], .v (.c (.own 127))), (22, [], .v (.c (.p (.sl t3) l))), (23, [], .v (.c (.pI (l.length : Int)))), (24, [], .v (.c (.pI v24))), (117, [], .v (.c (.pI ((w.length : Int) + (1 : Int))))), (118, [], .v (.c (.pI v118))), (128, [], .v (.c (.pI ((w.length : Int) + (1 : Int))))), (129, [], .v (.c (.pI s.1)))], [(9, [], .box [.pI ((l.getD (v24).toNat z3).1), .pI ((l.getD (v24).toNat z3).2.1), .pI ((l.getD (v24).toNat z3).2.2)]), (29, [], .arr 39 (.int .u32) s.2), (127, [], .arr 39 (.int .u32) ret127v), (5007, [], .arr 92 (.sl (.int .u32)) all)]⟩ : St)) (fun s X => VC46_l6 w v118 X5 ret127v s.1 s.2 X) (s0 := ((0 : Int), rv2)) (fun s X6 h => ?_) h
                                  obtain ⟨v129, rv3⟩ := s
                                  have h : VC46_l6 w v118 X5 ret127v v129 rv3 X6 := h
                                  unfold VC46_l6 at h
                                  refine aw_seq ?_
                                  refine aw_region ?_
                                  refine awl_runp 1 [1, 5, 6, 7, 9, 10, 16, 22, 23, 24, 117, 118, 128, 129, 130] [9, 29, 127, 5007] (ob := (True ∧ True)) (st' := (⟨155, [(1, [], .v (.c (.pS w))), (5, [], .v (.c (.ad (.int .i64) ((w.length : Int) + (1 : Int))))), (6, [], .v (.c (.fn 86 [(⟨(.int .i64), ((w.length : Int) + (1 : Int))⟩ : Dat)]))), (7, [], .v (.c (.own 5007))), (9, [], .v (.c (.ptr 9 0))), (10, [], .v (.c (.own 29))), (16, [], .v (.c (.own 127))), (22, [], .v (.c (.p (.sl t3) l))), (23, [], .v (.c (.pI (l.length : Int)))), (24, [], .v (.c (.pI v24))), (117, [], .v (.c (.pI ((w.length : Int) + (1 : Int))))), (118, [], .v (.c (.pI v118))), (128, [], .v (.c (.pI ((w.length : Int) + (1 : Int))))), (129, [], .v (.c (.pI v129))), (130, [], .v (.c (.pB (decide (v129 < ((w.length : Int) + (1 : Int)))))))], [(9, [], .box [.pI ((l.getD (v24).toNat z3).1), .pI ((l.getD (v24).toNat z3).2.1), .pI ((l.getD (v24).toNat z3).2.2)]), (29, [], .arr 39 (.int .u32) rv3), (127, [], .arr 39 (.int .u32) ret127v), (5007, [], .arr 92 (.sl (.int .u32)) all)]⟩ : St)) (by kernel_rfl) ⟨trivial, trivial⟩ ?_
                                  refine awl_nil ?_
                                  refine thenQ_n ?_
                                  refine aw_seq ?_
                                  refine aw_cond (b := (decide (v129 < ((w.length : Int) + (1 : Int))))) (by kernel_rfl) (fun hb => ?_) (fun hb => ?_)
                                  · have h := h.1 hb
                                    refine aw_skip ?_
                                    refine thenQ_n ?_
                                    refine aw_seq ?_
                                    refine aw_block ?_
                                    refine aw_seq ?_
                                    refine aw_region ?_
                                    refine awl_runp 2 [1, 5, 6, 7, 9, 10, 16, 17, 22, 23, 24, 117, 118, 128, 129] [9, 29, 127, 5007] (ob := (True ∧ True ∧ True)) (st' := (⟨155, [(1, [], .v (.c (.pS w))), (5, [], .v (.c (.ad (.int .i64) ((w.length : Int) + (1 : Int))))), (6, [], .v (.c (.fn 86 [(⟨(.int .i64), ((w.length : Int) + (1 : Int))⟩ : Dat)]))), (7, [], .v (.c (.own 5007))), (9, [], .v (.c (.ptr 9 0))), (10, [], .v (.c (.own 29))), (16, [], .v (.c (.own 127))), (17, [], .v (.c (.pI v129))), (22, [], .v (.c (.p (.sl t3) l))), (23, [], .v (.c (.pI (l.length : Int)))), (24, [], .v (.c (.pI v24))), (117, [], .v (.c (.pI ((w.length : Int) + (1 : Int))))), (118, [], .v (.c (.pI v118))), (128, [], .v (.c (.pI ((w.length : Int) + (1 : Int))))), (129, [], .v (.c (.pI v129)))], [(9, [], .box [.pI ((l.getD (v24).toNat z3).1), .pI ((l.getD (v24).toNat z3).2.1), .pI ((l.getD (v24).toNat z3).2.2)]), (29, [], .arr 39 (.int .u32) rv3), (127, [], .arr 39 (.int .u32) ret127v), (5007, [], .arr 92 (.sl (.int .u32)) all)]⟩ : St)) (by kernel_rfl) ⟨trivial, trivial, trivial⟩ ?_
                                    refine awl_nil ?_
                                    refine thenQ_n ?_
                                    refine awd_begin [29] (by kernel_rfl) ?_
                                    obtain ⟨o1, o2, h⟩ := h
                                    refine awd_runp (by kernel_rfl) [0, 1, 2, 4, 5, 6, 7] [1, 5, 6, 7, 9, 10, 16, 22, 23, 24, 117, 118, 128, 129, 132, 133, 134, 139] [9, 29, 127, 5007] (ob := (True ∧ True ∧ inIdx v129 rv3.length ∧ True ∧ True ∧ inIdx v129 ret127v.length ∧ True ∧ True)) (done' := [7, 6, 5, 4, 2, 1, 0]) (st' := (⟨155, [(1, [], .v (.c (.pS w))), (5, [], .v (.c (.ad (.int .i64) ((w.length : Int) + (1 : Int))))), (6, [], .v (.c (.fn 86 [(⟨(.int .i64), ((w.length : Int) + (1 : Int))⟩ : Dat)]))), (7, [], .v (.c (.own 5007))), (9, [], .v (.c (.ptr 9 0))), (10, [], .v (.c (.own 29))), (16, [], .v (.c (.own 127))), (22, [], .v (.c (.p (.sl t3) l))), (23, [], .v (.c (.pI (l.length : Int)))), (24, [], .v (.c (.pI v24))), (117, [], .v (.c (.pI ((w.length : Int) + (1 : Int))))), (118, [], .v (.c (.pI v118))), (128, [], .v (.c (.pI ((w.length : Int) + (1 : Int))))), (129, [], .v (.c (.pI v129))), (132, [], .v (.c (.own 29))), (133, [], .v (.c (.pI v129))), (134, [], .v (.c (.el 29 ((v129).toNat) 1))), (139, [], .v (.c (.p (.int .u32) (ret127v.getD ((v129).toNat) (0 : Int)))))], [(9, [], .box [.pI ((l.getD (v24).toNat z3).1), .pI ((l.getD (v24).toNat z3).2.1), .pI ((l.getD (v24).toNat z3).2.2)]), (29, [], .arr 39 (.int .u32) rv3), (127, [], .arr 39 (.int .u32) ret127v), (5007, [], .arr 92 (.sl (.int .u32)) all)]⟩ : St)) (by kernel_rfl) ⟨trivial, trivial, o1, trivial, trivial, o2, trivial, trivial⟩ ?_
                                    refine awd_one (i := 3) (by kernel_rfl) ?_
                                    refine adop_stepp [1, 5, 6, 7, 9, 10, 16, 22, 23, 24, 117, 118, 128, 129, 132, 133, 135, 139] [9, 29, 127, 5007] (ob := True) (st' := (⟨155, [(1, [], .v (.c (.pS w))), (5, [], .v (.c (.ad (.int .i64) ((w.length : Int) + (1 : Int))))), (6, [], .v (.c (.fn 86 [(⟨(.int .i64), ((w.length : Int) + (1 : Int))⟩ : Dat)]))), (7, [], .v (.c (.own 5007))), (9, [], .v (.c (.ptr 9 0))), (10, [], .v (.c (.own 29))), (16, [], .v (.c (.own 127))), (22, [], .v (.c (.p (.sl t3) l))), (23, [], .v (.c (.pI (l.length : Int)))), (24, [], .v (.c (.pI v24))), (117, [], .v (.c (.pI ((w.length : Int) + (1 : Int))))), (118, [], .v (.c (.pI v118))), (128, [], .v (.c (.pI ((w.length : Int) + (1 : Int))))), (129, [], .v (.c (.pI v129))), (132, [], .v (.c (.own 29))), (133, [], .v (.c (.pI v129))), (135, [], .v (.c (.p (.int .u32) (rv3.getD ((v129).toNat) (0 : Int))))), (139, [], .v (.c (.p (.int .u32) (ret127v.getD ((v129).toNat) (0 : Int)))))], [(9, [], .box [.pI ((l.getD (v24).toNat z3).1), .pI ((l.getD (v24).toNat z3).2.1), .pI ((l.getD (v24).toNat z3).2.2)]), (29, [], .arr 39 (.int .u32) rv3), (127, [], .arr 39 (.int .u32) ret127v), (5007, [], .arr 92 (.sl (.int .u32)) all)]⟩ : St)) rfl (by kernel_rfl) trivial ?_
                                    obtain ⟨o1, h⟩ := h
                                    refine awd_runp (by kernel_rfl) [8, 9] [1, 5, 6, 7, 9, 10, 16, 22, 23, 24, 117, 118, 128, 129, 140, 141] [9, 29, 127, 5007] (ob := (True ∧ inIdx v129 rv3.length ∧ True)) (done' := [9, 8, 3, 7, 6, 5, 4, 2, 1, 0]) (st' := (⟨155, [(1, [], .v (.c (.pS w))), (5, [], .v (.c (.ad (.int .i64) ((w.length : Int) + (1 : Int))))), (6, [], .v (.c (.fn 86 [(⟨(.int .i64), ((w.length : Int) + (1 : Int))⟩ : Dat)]))), (7, [], .v (.c (.own 5007))), (9, [], .v (.c (.ptr 9 0))), (10, [], .v (.c (.own 29))), (16, [], .v (.c (.own 127))), (22, [], .v (.c (.p (.sl t3) l))), (23, [], .v (.c (.pI (l.length : Int)))), (24, [], .v (.c (.pI v24))), (117, [], .v (.c (.pI ((w.length : Int) + (1 : Int))))), (118, [], .v (.c (.pI v118))), (128, [], .v (.c (.pI ((w.length : Int) + (1 : Int))))), (129, [], .v (.c (.pI v129))), (140, [], .v (.c (.p (.int .u32) (bOr .u32 (rv3.getD ((v129).toNat) (0 : Int)) (ret127v.getD ((v129).toNat) (0 : Int)))))), (141, [], .v (.c (.el 29 ((v129).toNat) 1)))], [(9, [], .box [.pI ((l.getD (v24).toNat z3).1), .pI ((l.getD (v24).toNat z3).2.1), .pI ((l.getD (v24).toNat z3).2.2)]), (29, [], .arr 39 (.int .u32) rv3), (127, [], .arr 39 (.int .u32) ret127v), (5007, [], .arr 92 (.sl (.int .u32)) all)]⟩ : St)) (by kernel_rfl) ⟨trivial, o1, trivial⟩ ?_
                                    refine awd_one (i := 10) (by kernel_rfl) ?_
                                    refine adop_stepp [1, 5, 6, 7, 9, 10, 16, 22, 23, 24, 117, 118, 128, 129] [9, 29, 127, 5007] (ob := True) (st' := (⟨155, [(1, [], .v (.c (.pS w))), (5, [], .v (.c (.ad (.int .i64) ((w.length : Int) + (1 : Int))))), (6, [], .v (.c (.fn 86 [(⟨(.int .i64), ((w.length : Int) + (1 : Int))⟩ : Dat)]))), (7, [], .v (.c (.own 5007))), (9, [], .v (.c (.ptr 9 0))), (10, [], .v (.c (.own 29))), (16, [], .v (.c (.own 127))), (22, [], .v (.c (.p (.sl t3) l))), (23, [], .v (.c (.pI (l.length : Int)))), (24, [], .v (.c (.pI v24))), (117, [], .v (.c (.pI ((w.length : Int) + (1 : Int))))), (118, [], .v (.c (.pI v118))), (128, [], .v (.c (.pI ((w.length : Int) + (1 : Int))))), (129, [], .v (.c (.pI v129)))], [(9, [], .box [.pI ((l.getD (v24).toNat z3).1), .pI ((l.getD (v24).toNat z3).2.1), .pI ((l.getD (v24).toNat z3).2.2)]), (29, [], .arr 39 (.int .u32) (rv3.set ((v129).toNat) (bOr .u32 (rv3.getD ((v129).toNat) (0 : Int)) (ret127v.getD ((v129).toNat) (0 : Int))))), (127, [], .arr 39 (.int .u32) ret127v), (5007, [], .arr 92 (.sl (.int .u32)) all)]⟩ : St)) rfl (by kernel_rfl) trivial ?_
                                    refine awd_done (by kernel_rfl) ?_
                                    refine blockQ_n ?_
                                    refine thenQ_n ?_
                                    refine aw_region ?_
                                    obtain ⟨o1, h⟩ := h
                                    refine awl_runp 2 [1, 5, 6, 7, 9, 10, 16, 22, 23, 24, 117, 118, 128, 129] [9, 29, 127, 5007] (ob := (InR (v129 + (1 : Int)) ∧ True ∧ True)) (st' := (⟨155, [(1, [], .v (.c (.pS w))), (5, [], .v (.c (.ad (.int .i64) ((w.length : Int) + (1 : Int))))), (6, [], .v (.c (.fn 86 [(⟨(.int .i64), ((w.length : Int) + (1 : Int))⟩ : Dat)]))), (7, [], .v (.c (.own 5007))), (9, [], .v (.c (.ptr 9 0))), (10, [], .v (.c (.own 29))), (16, [], .v (.c (.own 127))), (22, [], .v (.c (.p (.sl t3) l))), (23, [], .v (.c (.pI (l.length : Int)))), (24, [], .v (.c (.pI v24))), (117, [], .v (.c (.pI ((w.length : Int) + (1 : Int))))), (118, [], .v (.c (.pI v118))), (128, [], .v (.c (.pI ((w.length : Int) + (1 : Int))))), (129, [], .v (.c (.pI (v129 + (1 : Int)))))], [(9, [], .box [.pI ((l.getD (v24).toNat z3).1), .pI ((l.getD (v24).toNat z3).2.1), .pI ((l.getD (v24).toNat z3).2.2)]), (29, [], .arr 39 (.int .u32) (rv3.set ((v129).toNat) (bOr .u32 (rv3.getD ((v129).toNat) (0 : Int)) (ret127v.getD ((v129).toNat) (0 : Int))))), (127, [], .arr 39 (.int .u32) ret127v), (5007, [], .arr 92 (.sl (.int .u32)) all)]⟩ : St)) (by kernel_rfl) ⟨o1, trivial, trivial⟩ ?_
                                    refine awl_nil ?_
                                    exact thenQ_n ⟨((v129 + (1 : Int)), (rv3.set ((v129).toNat) (bOr .u32 (rv3.getD ((v129).toNat) (0 : Int)) (ret127v.getD ((v129).toNat) (0 : Int))))), rfl, h⟩
                                  · have h := h.2 hb
                                    refine aw_conv [.prune [1, 5, 6, 7, 9, 10, 22, 23, 24, 117, 118] [9, 29, 5007]] (st' := (⟨155, [(1, [], .v (.c (.pS w))), (5, [], .v (.c (.ad (.int .i64) ((w.length : Int) + (1 : Int))))), (6, [], .v (.c (.fn 86 [(⟨(.int .i64), ((w.length : Int) + (1 : Int))⟩ : Dat)]))), (7, [], .v (.c (.own 5007))), (9, [], .v (.c (.ptr 9 0))), (10, [], .v (.c (.own 29))), (22, [], .v (.c (.p (.sl t3) l))), (23, [], .v (.c (.pI (l.length : Int)))), (24, [], .v (.c (.pI v24))), (117, [], .v (.c (.pI ((w.length : Int) + (1 : Int))))), (118, [], .v (.c (.pI v118)))], [(9, [], .box [.pI ((l.getD (v24).toNat z3).1), .pI ((l.getD (v24).toNat z3).2.1), .pI ((l.getD (v24).toNat z3).2.2)]), (29, [], .arr 39 (.int .u32) rv3), (5007, [], .arr 92 (.sl (.int .u32)) all)]⟩ : St)) (by kernel_rfl) ?_
                                    refine aw_exit ?_
                                    refine thenQ_x ?_
                                    refine thenQ_x ?_
                                    refine blockQ_hit ?_
                                    exact rest12 rv3 h
                              · have h := h.2 hb
                                refine aw_conv [.prune [1, 5, 6, 7, 10, 22, 23, 24] [29, 5007]] (st' := (⟨155, [(1, [], .v (.c (.pS w))), (5, [], .v (.c (.ad (.int .i64) ((w.length : Int) + (1 : Int))))), (6, [], .v (.c (.fn 86 [(⟨(.int .i64), ((w.length : Int) + (1 : Int))⟩ : Dat)]))), (7, [], .v (.c (.own 5007))), (10, [], .v (.c (.own 29))), (22, [], .v (.c (.p (.sl t3) l))), (23, [], .v (.c (.pI (l.length : Int)))), (24, [], .v (.c (.pI v24)))], [(29, [], .arr 39 (.int .u32) rv2), (5007, [], .arr 92 (.sl (.int .u32)) all)]⟩ : St)) (by kernel_rfl) ?_
                                refine aw_exit ?_
                                refine thenQ_x ?_
                                refine thenQ_x ?_
                                refine blockQ_hit ?_
                                exact rest11 rv2 h
                          · refine aw_block ?_
                            refine aw_loop (σ := Int × LI) (fun s => (⟨155, [(1, [], .v (.c (.pS w))), (5, [], .v (.c (.ad (.int .i64) ((w.length : Int) + (1 : Int))))), (6, [], .v (.c (.fn 86 [(⟨(.int .i64), ((w.length : Int) + (1 : Int))⟩ : Dat)]))), (7, [], .v (.c (.own 5007))), (9, [], .v (.c (.ptr 9 0))), (10, [], .v (.c (.own 29))), (22, [], .v (.c (.p (.sl t3) l))), (23, [], .v (.c (.pI (l.length : Int)))), (24, [], .v (.c (.pI v24))), (107, [], .v (.c (.pI ((w.length : Int) + (1 : Int))))), (108, [], .v (.c (.pI s.1)))], [(9, [], .box [.pI ((l.getD (v24).toNat z3).1), .pI ((l.getD (v24).toNat z3).2.1), .pI ((l.getD (v24).toNat z3).2.2)]), (29, [], .arr 39 (.int .u32) s.2), (5007, [], .arr 92 (.sl (.int .u32)) all)]⟩ : St)) (fun s X => VC46_l7 l w v24 all X1 s.1 s.2 X) (s0 := ((0 : Int), (List.replicate (((w.length : Int) + (1 : Int))).toNat (0 : Int)))) (fun s X7 h => ?_) h
                            obtain ⟨v108, rv⟩ := s
                            have h : VC46_l7 l w v24 all X1 v108 rv X7 := h
                            unfold VC46_l7 at h
                            refine aw_seq ?_
                            refine aw_region ?_
                            refine awl_runp 1 [1, 5, 6, 7, 9, 10, 22, 23, 24, 107, 108, 109] [9, 29, 5007] (ob := (True ∧ True)) (st' := (⟨155, [(1, [], .v (.c (.pS w))), (5, [], .v (.c (.ad (.int .i64) ((w.length : Int) + (1 : Int))))), (6, [], .v (.c (.fn 86 [(⟨(.int .i64), ((w.length : Int) + (1 : Int))⟩ : Dat)]))), (7, [], .v (.c (.own 5007))), (9, [], .v (.c (.ptr 9 0))), (10, [], .v (.c (.own 29))), (22, [], .v (.c (.p (.sl t3) l))), (23, [], .v (.c (.pI (l.length : Int)))), (24, [], .v (.c (.pI v24))), (107, [], .v (.c (.pI ((w.length : Int) + (1 : Int))))), (108, [], .v (.c (.pI v108))), (109, [], .v (.c (.pB (decide (v108 < ((w.length : Int) + (1 : Int)))))))], [(9, [], .box [.pI ((l.getD (v24).toNat z3).1), .pI ((l.getD (v24).toNat z3).2.1), .pI ((l.getD (v24).toNat z3).2.2)]), (29, [], .arr 39 (.int .u32) rv), (5007, [], .arr 92 (.sl (.int .u32)) all)]⟩ : St)) (by kernel_rfl) ⟨trivial, trivial⟩ ?_
                            refine awl_nil ?_
                            refine thenQ_n ?_
                            refine aw_seq ?_
                            refine aw_cond (b := (decide (v108 < ((w.length : Int) + (1 : Int))))) (by kernel_rfl) (fun hb => ?_) (fun hb => ?_)
                            · have h := h.1 hb
                              refine aw_skip ?_
                              refine thenQ_n ?_
                              refine aw_seq ?_
                              refine aw_block ?_
                              refine aw_seq ?_
                              refine aw_region ?_
                              refine awl_runp 2 [1, 5, 6, 7, 9, 10, 15, 22, 23, 24, 107, 108] [9, 29, 5007] (ob := (True ∧ True ∧ True)) (st' := (⟨155, [(1, [], .v (.c (.pS w))), (5, [], .v (.c (.ad (.int .i64) ((w.length : Int) + (1 : Int))))), (6, [], .v (.c (.fn 86 [(⟨(.int .i64), ((w.length : Int) + (1 : Int))⟩ : Dat)]))), (7, [], .v (.c (.own 5007))), (9, [], .v (.c (.ptr 9 0))), (10, [], .v (.c (.own 29))), (15, [], .v (.c (.pI v108))), (22, [], .v (.c (.p (.sl t3) l))), (23, [], .v (.c (.pI (l.length : Int)))), (24, [], .v (.c (.pI v24))), (107, [], .v (.c (.pI ((w.length : Int) + (1 : Int))))), (108, [], .v (.c (.pI v108)))], [(9, [], .box [.pI ((l.getD (v24).toNat z3).1), .pI ((l.getD (v24).toNat z3).2.1), .pI ((l.getD (v24).toNat z3).2.2)]), (29, [], .arr 39 (.int .u32) rv), (5007, [], .arr 92 (.sl (.int .u32)) all)]⟩ : St)) (by kernel_rfl) ⟨trivial, trivial, trivial⟩ ?_
                              refine awl_nil ?_
                              refine thenQ_n ?_
                              refine aw_region ?_
                              obtain ⟨o1, o2, h⟩ := h
                              refine awl_runp 6 [1, 5, 6, 7, 9, 10, 22, 23, 24, 107, 108] [9, 29, 5007] (ob := (True ∧ True ∧ True ∧ 0 ≤ v108 ∧ inIdx v108 rv.length ∧ True ∧ True)) (st' := (⟨155, [(1, [], .v (.c (.pS w))), (5, [], .v (.c (.ad (.int .i64) ((w.length : Int) + (1 : Int))))), (6, [], .v (.c (.fn 86 [(⟨(.int .i64), ((w.length : Int) + (1 : Int))⟩ : Dat)]))), (7, [], .v (.c (.own 5007))), (9, [], .v (.c (.ptr 9 0))), (10, [], .v (.c (.own 29))), (22, [], .v (.c (.p (.sl t3) l))), (23, [], .v (.c (.pI (l.length : Int)))), (24, [], .v (.c (.pI v24))), (107, [], .v (.c (.pI ((w.length : Int) + (1 : Int))))), (108, [], .v (.c (.pI v108)))], [(9, [], .box [.pI ((l.getD (v24).toNat z3).1), .pI ((l.getD (v24).toNat z3).2.1), .pI ((l.getD (v24).toNat z3).2.2)]), (29, [], .arr 39 (.int .u32) (rv.set ((v108).toNat) (bShl .u32 (1 : Int) v108))), (5007, [], .arr 92 (.sl (.int .u32)) all)]⟩ : St)) (by kernel_rfl) ⟨trivial, trivial, trivial, o1, o2, trivial, trivial⟩ ?_
                              refine awl_nil ?_
                              refine blockQ_n ?_
                              refine thenQ_n ?_
                              refine aw_region ?_
                              obtain ⟨o1, h⟩ := h
                              refine awl_runp 2 [1, 5, 6, 7, 9, 10, 22, 23, 24, 107, 108] [9, 29, 5007] (ob := (InR (v108 + (1 : Int)) ∧ True ∧ True)) (st' := (⟨155, [(1, [], .v (.c (.pS w))), (5, [], .v (.c (.ad (.int .i64) ((w.length : Int) + (1 : Int))))), (6, [], .v (.c (.fn 86 [(⟨(.int .i64), ((w.length : Int) + (1 : Int))⟩ : Dat)]))), (7, [], .v (.c (.own 5007))), (9, [], .v (.c (.ptr 9 0))), (10, [], .v (.c (.own 29))), (22, [], .v (.c (.p (.sl t3) l))), (23, [], .v (.c (.pI (l.length : Int)))), (24, [], .v (.c (.pI v24))), (107, [], .v (.c (.pI ((w.length : Int) + (1 : Int))))), (108, [], .v (.c (.pI (v108 + (1 : Int)))))], [(9, [], .box [.pI ((l.getD (v24).toNat z3).1), .pI ((l.getD (v24).toNat z3).2.1), .pI ((l.getD (v24).toNat z3).2.2)]), (29, [], .arr 39 (.int .u32) (rv.set ((v108).toNat) (bShl .u32 (1 : Int) v108))), (5007, [], .arr 92 (.sl (.int .u32)) all)]⟩ : St)) (by kernel_rfl) ⟨o1, trivial, trivial⟩ ?_
                              refine awl_nil ?_
                              exact thenQ_n ⟨((v108 + (1 : Int)), (rv.set ((v108).toNat) (bShl .u32 (1 : Int) v108))), rfl, h⟩
                            · have h := h.2 hb
                              refine aw_conv [.prune [1, 5, 6, 7, 9, 10, 22, 23, 24] [9, 29, 5007]] (st' := (⟨155, [(1, [], .v (.c (.pS w))), (5, [], .v (.c (.ad (.int .i64) ((w.length : Int) + (1 : Int))))), (6, [], .v (.c (.fn 86 [(⟨(.int .i64), ((w.length : Int) + (1 : Int))⟩ : Dat)]))), (7, [], .v (.c (.own 5007))), (9, [], .v (.c (.ptr 9 0))), (10, [], .v (.c (.own 29))), (22, [], .v (.c (.p (.sl t3) l))), (23, [], .v (.c (.pI (l.length : Int)))), (24, [], .v (.c (.pI v24)))], [(9, [], .box [.pI ((l.getD (v24).toNat z3).1), .pI ((l.getD (v24).toNat z3).2.1), .pI ((l.getD (v24).toNat z3).2.2)]), (29, [], .arr 39 (.int .u32) rv), (5007, [], .arr 92 (.sl (.int .u32)) all)]⟩ : St)) (by kernel_rfl) ?_
                              refine aw_exit ?_
                              refine thenQ_x ?_
                              refine thenQ_x ?_
                              refine blockQ_hit ?_
                              exact rest13 rv h
                        · have h := h.2 hb
                          refine aw_conv [.prune [1, 5, 6, 7, 10, 22, 23, 24] [29, 5007]] (st' := (⟨155, [(1, [], .v (.c (.pS w))), (5, [], .v (.c (.ad (.int .i64) ((w.length : Int) + (1 : Int))))), (6, [], .v (.c (.fn 86 [(⟨(.int .i64), ((w.length : Int) + (1 : Int))⟩ : Dat)]))), (7, [], .v (.c (.own 5007))), (10, [], .v (.c (.own 29))), (22, [], .v (.c (.p (.sl t3) l))), (23, [], .v (.c (.pI (l.length : Int)))), (24, [], .v (.c (.pI v24)))], [(29, [], .arr 39 (.int .u32) (List.replicate (((w.length : Int) + (1 : Int))).toNat (0 : Int))), (5007, [], .arr 92 (.sl (.int .u32)) all)]⟩ : St)) (by kernel_rfl) ?_
                          refine aw_skip ?_
                          exact rest10 (List.replicate (((w.length : Int) + (1 : Int))).toNat (0 : Int)) h
    · have h := h.2 hb
      refine aw_conv [.prune [7] [5007]] (st' := (⟨155, [(7, [], .v (.c (.own 5007)))], [(5007, [], .arr 92 (.sl (.int .u32)) all)]⟩ : St)) (by kernel_rfl) ?_
      refine aw_exit ?_
      refine thenQ_x ?_
      refine thenQ_x ?_
      refine blockQ_hit ?_
      exact rest1 all h

-- coppicer/sentence.Takes
def VC23 (k : Int) (l : LN) (w : LI) (K : Bool × Int → Prop) : Prop :=
  VC45 k l (fun (ret12v : Int) => (((!decide (ret12v = (0 : Int))) = true → K (false, ret12v)) ∧ ((!decide (ret12v = (0 : Int))) = false → VC40 k w (fun (ret18v : Int) => (((!decide (ret18v = (0 : Int))) = true → K (false, ret18v)) ∧ ((!decide (ret18v = (0 : Int))) = false → VC46 l w (fun (ret24v : LI) => (inIdx (0 : Int) ret24v.length ∧ VC44 (ret24v.getD ((0 : Int)).toNat (0 : Int)) (w.length : Int) (fun (ret29v : Bool) => K (ret29v, (0 : Int)))))))))))

set_option maxHeartbeats 4000000 in
theorem link23 (k : Int) (l : LN) (w : LI) (K : Bool × Int → Prop) (h : VC23 k l w K) : ACalls Try.prog 23 [toV1 (.int .i64) k, toV1 (.sl t3) l, toV1 (.sl (.int .i64)) w] (fun res => ∃ y, res = (fun y => [toV1 .bool y.1, toV1 (.int .i64) y.2]) y ∧ K y) := by
  refine acalls_of_aw [.bool, (.int .i64)] [.t 6, .t 7] Try.func23 rfl rfl rfl ?_
  unfold VC23 at h
  refine aw_seq ?_
  refine aw_region ?_
  refine awl_runp 2 [0, 1, 2] [] (ob := (True ∧ True ∧ True)) (st' := (⟨30, [(0, [], .v (.c (.pI k))), (1, [], .v (.c (.p (.sl t3) l))), (2, [], .v (.c (.pS w)))], []⟩ : St)) (by kernel_rfl) ⟨trivial, trivial, trivial⟩ ?_
  refine awl_nil ?_
  refine thenQ_n ?_
  refine aw_seq ?_
  refine aw_seq ?_
  refine aw_region ?_
  refine awl_runp 2 [0, 1, 2, 10, 11] [] (ob := (True ∧ True ∧ True)) (st' := (⟨30, [(0, [], .v (.c (.pI k))), (1, [], .v (.c (.p (.sl t3) l))), (2, [], .v (.c (.pS w))), (10, [], .v (.c (.pI k))), (11, [], .v (.c (.p (.sl t3) l)))], []⟩ : St)) (by kernel_rfl) ⟨trivial, trivial, trivial⟩ ?_
  refine awl_callk (p := []) (l := [toV1 (.int .i64) k, toV1 (.sl t3) l]) (cl := []) false [.d (.int .i64), .d (.sl t3)] [0, 1, 2, 12] [] (fun (ret12v : Int) => (((!decide (ret12v = (0 : Int))) = true → K (false, ret12v)) ∧ ((!decide (ret12v = (0 : Int))) = false → VC40 k w (fun (ret18v : Int) => (((!decide (ret18v = (0 : Int))) = true → K (false, ret18v)) ∧ ((!decide (ret18v = (0 : Int))) = false → VC46 l w (fun (ret24v : LI) => (inIdx (0 : Int) ret24v.length ∧ VC44 (ret24v.getD ((0 : Int)).toNat (0 : Int)) (w.length : Int) (fun (ret29v : Bool) => K (ret29v, (0 : Int))))))))))) (fun ret12v => [toV1 (.int .i64) ret12v]) (fun ret12v => (⟨30, [(0, [], .v (.c (.pI k))), (1, [], .v (.c (.p (.sl t3) l))), (2, [], .v (.c (.pS w))), (12, [], .v (.c (.pI ret12v)))], []⟩ : St)) (by kernel_rfl) rfl (by kernel_rfl) rfl (by kernel_rfl) Try.call45 (by kernel_rfl) (fun ret12v => by kernel_rfl) (fun e => by cases e) (fun hg => link45 k l _ h) (fun hg => noF hg) (fun ret12v h => ?_)
  have h : (((!decide (ret12v = (0 : Int))) = true → K (false, ret12v)) ∧ ((!decide (ret12v = (0 : Int))) = false → VC40 k w (fun (ret18v : Int) => (((!decide (ret18v = (0 : Int))) = true → K (false, ret18v)) ∧ ((!decide (ret18v = (0 : Int))) = false → VC46 l w (fun (ret24v : LI) => (inIdx (0 : Int) ret24v.length ∧ VC44 (ret24v.getD ((0 : Int)).toNat (0 : Int)) (w.length : Int) (fun (ret29v : Bool) => K (ret29v, (0 : Int)))))))))) := h
  refine awl_runp 1 [0, 1, 2, 8] [] (ob := (True ∧ True)) (st' := (⟨30, [(0, [], .v (.c (.pI k))), (1, [], .v (.c (.p (.sl t3) l))), (2, [], .v (.c (.pS w))), (8, [], .v (.c (.pI ret12v)))], []⟩ : St)) (by kernel_rfl) ⟨trivial, trivial⟩ ?_
  refine awl_nil ?_
  refine thenQ_n ?_
  refine aw_seq ?_
  refine aw_region ?_
  refine awl_runp 2 [0, 1, 2, 8, 14] [] (ob := (True ∧ True ∧ True)) (st' := (⟨30, [(0, [], .v (.c (.pI k))), (1, [], .v (.c (.p (.sl t3) l))), (2, [], .v (.c (.pS w))), (8, [], .v (.c (.pI ret12v))), (14, [], .v (.c (.pB (!decide (ret12v = (0 : Int))))))], []⟩ : St)) (by kernel_rfl) ⟨trivial, trivial, trivial⟩ ?_
  refine awl_nil ?_
  refine thenQ_n ?_
  refine aw_cond (b := (!decide (ret12v = (0 : Int)))) (by kernel_rfl) (fun hb => ?_) (fun hb => ?_)
  · have h := h.1 hb
    refine aw_seq ?_
    refine aw_region ?_
    refine awl_runp 3 [6, 7] [] (ob := (True ∧ True ∧ True ∧ True)) (st' := (⟨30, [(6, [], .v (.c (.pB false))), (7, [], .v (.c (.pI ret12v)))], []⟩ : St)) (by kernel_rfl) ⟨trivial, trivial, trivial, trivial⟩ ?_
    refine awl_nil ?_
    refine thenQ_n ?_
    refine aw_ret ?_
    refine thenQ_r ?_
    exact retQ_r (σ := Bool × Int) (R := (fun y => [toV1 .bool y.1, toV1 (.int .i64) y.2])) (ob := (True ∧ True ∧ True)) (false, ret12v) (by kernel_rfl) ⟨trivial, trivial, trivial⟩ h
  · have h := h.2 hb
    refine aw_skip ?_
    refine thenQ_n ?_
    refine aw_seq ?_
    refine aw_seq ?_
    refine aw_region ?_
    refine awl_runp 2 [1, 2, 16, 17] [] (ob := (True ∧ True ∧ True)) (st' := (⟨30, [(1, [], .v (.c (.p (.sl t3) l))), (2, [], .v (.c (.pS w))), (16, [], .v (.c (.pI k))), (17, [], .v (.c (.pS w)))], []⟩ : St)) (by kernel_rfl) ⟨trivial, trivial, trivial⟩ ?_
    refine awl_callk (p := []) (l := [toV1 (.int .i64) k, toV1 (.sl (.int .i64)) w]) (cl := []) false [.d (.int .i64), .d (.sl (.int .i64))] [1, 2, 18] [] (fun (ret18v : Int) => (((!decide (ret18v = (0 : Int))) = true → K (false, ret18v)) ∧ ((!decide (ret18v = (0 : Int))) = false → VC46 l w (fun (ret24v : LI) => (inIdx (0 : Int) ret24v.length ∧ VC44 (ret24v.getD ((0 : Int)).toNat (0 : Int)) (w.length : Int) (fun (ret29v : Bool) => K (ret29v, (0 : Int)))))))) (fun ret18v => [toV1 (.int .i64) ret18v]) (fun ret18v => (⟨30, [(1, [], .v (.c (.p (.sl t3) l))), (2, [], .v (.c (.pS w))), (18, [], .v (.c (.pI ret18v)))], []⟩ : St)) (by kernel_rfl) rfl (by kernel_rfl) rfl (by kernel_rfl) Try.call40 (by kernel_rfl) (fun ret18v => by kernel_rfl) (fun e => by cases e) (fun hg => link40 k w _ h) (fun hg => noF hg) (fun ret18v h => ?_)
    have h : (((!decide (ret18v = (0 : Int))) = true → K (false, ret18v)) ∧ ((!decide (ret18v = (0 : Int))) = false → VC46 l w (fun (ret24v : LI) => (inIdx (0 : Int) ret24v.length ∧ VC44 (ret24v.getD ((0 : Int)).toNat (0 : Int)) (w.length : Int) (fun (ret29v : Bool) => K (ret29v, (0 : Int))))))) := h
    refine awl_runp 1 [1, 2, 9] [] (ob := (True ∧ True)) (st' := (⟨30, [(1, [], .v (.c (.p (.sl t3) l))), (2, [], .v (.c (.pS w))), (9, [], .v (.c (.pI ret18v)))], []⟩ : St)) (by kernel_rfl) ⟨trivial, trivial⟩ ?_
    refine awl_nil ?_
    refine thenQ_n ?_
    refine aw_seq ?_
    refine aw_region ?_
    refine awl_runp 2 [1, 2, 9, 20] [] (ob := (True ∧ True ∧ True)) (st' := (⟨30, [(1, [], .v (.c (.p (.sl t3) l))), (2, [], .v (.c (.pS w))), (9, [], .v (.c (.pI ret18v))), (20, [], .v (.c (.pB (!decide (ret18v = (0 : Int))))))], []⟩ : St)) (by kernel_rfl) ⟨trivial, trivial, trivial⟩ ?_
    refine awl_nil ?_
    refine thenQ_n ?_
    refine aw_cond (b := (!decide (ret18v = (0 : Int)))) (by kernel_rfl) (fun hb => ?_) (fun hb => ?_)
    · have h := h.1 hb
      refine aw_seq ?_
      refine aw_region ?_
      refine awl_runp 3 [6, 7] [] (ob := (True ∧ True ∧ True ∧ True)) (st' := (⟨30, [(6, [], .v (.c (.pB false))), (7, [], .v (.c (.pI ret18v)))], []⟩ : St)) (by kernel_rfl) ⟨trivial, trivial, trivial, trivial⟩ ?_
      refine awl_nil ?_
      refine thenQ_n ?_
      refine aw_ret ?_
      refine thenQ_r ?_
      exact retQ_r (σ := Bool × Int) (R := (fun y => [toV1 .bool y.1, toV1 (.int .i64) y.2])) (ob := (True ∧ True ∧ True)) (false, ret18v) (by kernel_rfl) ⟨trivial, trivial, trivial⟩ h
    · have h := h.2 hb
      refine aw_skip ?_
      refine thenQ_n ?_
      refine aw_seq ?_
      refine aw_region ?_
      refine awl_runp 2 [2, 22, 23] [] (ob := (True ∧ True ∧ True)) (st' := (⟨30, [(2, [], .v (.c (.pS w))), (22, [], .v (.c (.p (.sl t3) l))), (23, [], .v (.c (.pS w)))], []⟩ : St)) (by kernel_rfl) ⟨trivial, trivial, trivial⟩ ?_
      refine awl_callk (p := []) (l := [toV1 (.sl t3) l, toV1 (.sl (.int .i64)) w]) (cl := []) false [.d (.sl t3), .d (.sl (.int .i64))] [2, 24] [] (fun (ret24v : LI) => (inIdx (0 : Int) ret24v.length ∧ VC44 (ret24v.getD ((0 : Int)).toNat (0 : Int)) (w.length : Int) (fun (ret29v : Bool) => K (ret29v, (0 : Int))))) (fun ret24v => [toV1 (.sl (.int .u32)) ret24v]) (fun ret24v => (⟨30, [(2, [], .v (.c (.pS w))), (24, [], .v (.c (.p (.sl (.int .u32)) ret24v)))], []⟩ : St)) (by kernel_rfl) rfl (by kernel_rfl) rfl (by kernel_rfl) Try.call46 (by kernel_rfl) (fun ret24v => by kernel_rfl) (fun e => by cases e) (fun hg => link46 l w _ h) (fun hg => noF hg) (fun ret24v h => ?_)
      have h : (inIdx (0 : Int) ret24v.length ∧ VC44 (ret24v.getD ((0 : Int)).toNat (0 : Int)) (w.length : Int) (fun (ret29v : Bool) => K (ret29v, (0 : Int)))) := h
      obtain ⟨o1, h⟩ := h
      refine awl_runp 4 [26, 28] [] (ob := (inIdx (0 : Int) ret24v.length ∧ True ∧ True ∧ True ∧ True)) (st' := (⟨30, [(26, [], .v (.c (.p (.int .u32) (ret24v.getD ((0 : Int)).toNat (0 : Int))))), (28, [], .v (.c (.pI (w.length : Int))))], []⟩ : St)) (by kernel_rfl) ⟨o1, trivial, trivial, trivial, trivial⟩ ?_
      refine awl_callk (p := []) (l := [toV1 (.int .u32) (ret24v.getD ((0 : Int)).toNat (0 : Int)), toV1 (.int .i64) (w.length : Int)]) (cl := []) false [.d (.int .u32), .d (.int .i64)] [29] [] (fun (ret29v : Bool) => K (ret29v, (0 : Int))) (fun ret29v => [toV1 .bool ret29v]) (fun ret29v => (⟨30, [(29, [], .v (.c (.pB ret29v)))], []⟩ : St)) (by kernel_rfl) rfl (by kernel_rfl) rfl (by kernel_rfl) Try.call44 (by kernel_rfl) (fun ret29v => by kernel_rfl) (fun e => by cases e) (fun hg => link44 (ret24v.getD ((0 : Int)).toNat (0 : Int)) (w.length : Int) _ h) (fun hg => noF hg) (fun ret29v h => ?_)
      have h : K (ret29v, (0 : Int)) := h
      refine awl_runp 2 [6, 7] [] (ob := (True ∧ True ∧ True)) (st' := (⟨30, [(6, [], .v (.c (.pB ret29v))), (7, [], .v (.c (.pI (0 : Int))))], []⟩ : St)) (by kernel_rfl) ⟨trivial, trivial, trivial⟩ ?_
      refine awl_nil ?_
      refine thenQ_n ?_
      refine aw_ret ?_
      exact retQ_r (σ := Bool × Int) (R := (fun y => [toV1 .bool y.1, toV1 (.int .i64) y.2])) (ob := (True ∧ True ∧ True)) (ret29v, (0 : Int)) (by kernel_rfl) ⟨trivial, trivial, trivial⟩ h

end Dec
