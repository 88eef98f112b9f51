/-
  Printed by dec2.py: of each function its plain demand, and that the demand gives the contract.
-/
import Derived.Test.YtjjlefbbdnfjiaaGenLb
set_option linter.unusedVariables false
set_option linter.unusedSimpArgs false
set_option maxRecDepth 100000
namespace Dec
open Go Go.RowKit Go.Proofs

-- coppicer/edit.Shared$1
def VC45 (a : (List Int)) (b : (List Int)) (K : (List Int) → Prop) : Prop :=
  gcall (α := Int) ((!(decide ((b.length : Int) < (a.length : Int)))) && (decide ((a.length : Int) = (b.length : Int)))) (VC43 a b) (0 : Int) (fun (ret19v : Int) => ((((decide ((b.length : Int) < (a.length : Int))) || ((decide ((a.length : Int) = (b.length : Int))) && (decide (ret19v ≤ (0 : Int))))) = true → K a) ∧ (((decide ((b.length : Int) < (a.length : Int))) || ((decide ((a.length : Int) = (b.length : Int))) && (decide (ret19v ≤ (0 : Int))))) = false → K b)))

set_option maxHeartbeats 4000000 in
theorem link45 (a : (List Int)) (b : (List Int)) (K : (List Int) → Prop) (h : VC45 a b K) : ACalls Try.prog 45 [toV1 (.sl (.int .u8)) a, toV1 (.sl (.int .u8)) b] (fun res => ∃ y, res = (fun y => [toV1 (.sl (.int .u8)) y]) y ∧ K y) := by
  refine acalls_of_aw [(.sl (.int .u8))] [.t 4] Try.func45 rfl rfl rfl ?_
  unfold VC45 at h
  refine aw_seq ?_
  refine aw_region ?_
  refine awl_runp 1 [0, 1] [] (ob := (True ∧ True)) (st' := (⟨25, [(0, [], .v (.c (.p (.sl (.int .u8)) a))), (1, [], .v (.c (.p (.sl (.int .u8)) b)))], []⟩ : St)) (by kernel_rfl) ⟨trivial, trivial⟩ ?_
  refine awl_nil ?_
  refine thenQ_n ?_
  refine aw_seq ?_
  refine aw_seq ?_
  refine aw_region ?_
  refine awl_runp 14 [0, 1, 10, 16, 17, 18] [] (ob := (True ∧ True ∧ True ∧ True ∧ True ∧ True ∧ ((decide ((b.length : Int) < (a.length : Int))) = false → True) ∧ ((decide ((b.length : Int) < (a.length : Int))) = false → True) ∧ ((decide ((b.length : Int) < (a.length : Int))) = false → True) ∧ ((decide ((b.length : Int) < (a.length : Int))) = false → True) ∧ ((decide ((b.length : Int) < (a.length : Int))) = false → True) ∧ ((decide ((b.length : Int) < (a.length : Int))) = false → True) ∧ ((decide ((b.length : Int) < (a.length : Int))) = false → ((decide ((a.length : Int) = (b.length : Int))) = true → True)) ∧ ((decide ((b.length : Int) < (a.length : Int))) = false → ((decide ((a.length : Int) = (b.length : Int))) = true → True)) ∧ True)) (st' := (⟨25, [(0, [], .v (.c (.p (.sl (.int .u8)) a))), (1, [], .v (.c (.p (.sl (.int .u8)) b))), (10, [], .v (.c (.p .bool (decide ((b.length : Int) < (a.length : Int)))))), (16, [(10, false)], .v (.c (.p .bool (decide ((a.length : Int) = (b.length : Int)))))), (17, [(10, false), (16, true)], .v (.c (.p (.sl (.int .u8)) a))), (18, [(10, false), (16, true)], .v (.c (.p (.sl (.int .u8)) b)))], []⟩ : St)) (by kernel_rfl) ⟨trivial, trivial, trivial, trivial, trivial, trivial, (fun _ => trivial), (fun _ => trivial), (fun _ => trivial), (fun _ => trivial), (fun _ => trivial), (fun _ => trivial), (fun _ _ => trivial), (fun _ _ => trivial), trivial⟩ ?_
  refine awl_callk (p := [(10, false), (16, true)]) (l := [toV1 (.sl (.int .u8)) a, toV1 (.sl (.int .u8)) b]) (cl := []) false [.d (.sl (.int .u8)), .d (.sl (.int .u8))] [0, 1, 10, 16, 19] [] (fun (ret19v : Int) => ((((decide ((b.length : Int) < (a.length : Int))) || ((decide ((a.length : Int) = (b.length : Int))) && (decide (ret19v ≤ (0 : Int))))) = true → K a) ∧ (((decide ((b.length : Int) < (a.length : Int))) || ((decide ((a.length : Int) = (b.length : Int))) && (decide (ret19v ≤ (0 : Int))))) = false → K b))) (fun ret19v => [toV1 (.int .i64) ret19v]) (fun ret19v => (⟨25, [(0, [], .v (.c (.p (.sl (.int .u8)) a))), (1, [], .v (.c (.p (.sl (.int .u8)) b))), (10, [], .v (.c (.p .bool (decide ((b.length : Int) < (a.length : Int)))))), (16, [(10, false)], .v (.c (.p .bool (decide ((a.length : Int) = (b.length : Int)))))), (19, [(10, false), (16, true)], .v (.c (.p (.int .i64) ret19v)))], []⟩ : St)) (by kernel_rfl) rfl (by kernel_rfl) rfl (by kernel_rfl) Try.call43 (by kernel_rfl) (fun ret19v => by kernel_rfl) (fun e => by cases e) (fun hg => link43 a b _ (by have := gcall_T h (show ((!(decide ((b.length : Int) < (a.length : Int)))) && (decide ((a.length : Int) = (b.length : Int)))) = true from hg); exact this)) (fun hg => ⟨(0 : Int), by have := gcall_F h (show ((!(decide ((b.length : Int) < (a.length : Int)))) && (decide ((a.length : Int) = (b.length : Int)))) = false from hg); exact this⟩) (fun ret19v h => ?_)
  have h : ((((decide ((b.length : Int) < (a.length : Int))) || ((decide ((a.length : Int) = (b.length : Int))) && (decide (ret19v ≤ (0 : Int))))) = true → K a) ∧ (((decide ((b.length : Int) < (a.length : Int))) || ((decide ((a.length : Int) = (b.length : Int))) && (decide (ret19v ≤ (0 : Int))))) = false → K b)) := h
  refine awl_runp 3 [0, 1, 22] [] (ob := (((decide ((b.length : Int) < (a.length : Int))) = false → ((decide ((a.length : Int) = (b.length : Int))) = true → True)) ∧ ((decide ((b.length : Int) < (a.length : Int))) = false → True) ∧ True ∧ True)) (st' := (⟨25, [(0, [], .v (.c (.p (.sl (.int .u8)) a))), (1, [], .v (.c (.p (.sl (.int .u8)) b))), (22, [], .v (.c (.p .bool ((decide ((b.length : Int) < (a.length : Int))) || ((decide ((a.length : Int) = (b.length : Int))) && (decide (ret19v ≤ (0 : Int))))))))], []⟩ : St)) (by kernel_rfl) ⟨(fun _ _ => trivial), (fun _ => trivial), trivial, trivial⟩ ?_
  refine awl_nil ?_
  refine thenQ_n ?_
  refine aw_cond (b := ((decide ((b.length : Int) < (a.length : Int))) || ((decide ((a.length : Int) = (b.length : Int))) && (decide (ret19v ≤ (0 : Int)))))) (by kernel_rfl) (fun hb => ?_) (fun hb => ?_)
  · have h := h.1 hb
    refine aw_seq ?_
    refine aw_region ?_
    refine awl_runp 2 [4] [] (ob := (True ∧ True ∧ True)) (st' := (⟨25, [(4, [], .v (.c (.p (.sl (.int .u8)) a)))], []⟩ : St)) (by kernel_rfl) ⟨trivial, trivial, trivial⟩ ?_
    refine awl_nil ?_
    refine thenQ_n ?_
    refine aw_ret ?_
    refine thenQ_r ?_
    exact retQ_r (σ := (List Int)) (R := (fun y => [toV1 (.sl (.int .u8)) y])) (ob := (True ∧ True)) a (by kernel_rfl) ⟨trivial, trivial⟩ h
  · have h := h.2 hb
    refine aw_skip ?_
    refine thenQ_n ?_
    refine aw_seq ?_
    refine aw_region ?_
    refine awl_runp 2 [4] [] (ob := (True ∧ True ∧ True)) (st' := (⟨25, [(4, [], .v (.c (.p (.sl (.int .u8)) b)))], []⟩ : St)) (by kernel_rfl) ⟨trivial, trivial, trivial⟩ ?_
    refine awl_nil ?_
    refine thenQ_n ?_
    refine aw_ret ?_
    exact retQ_r (σ := (List Int)) (R := (fun y => [toV1 (.sl (.int .u8)) y])) (ob := (True ∧ True)) b (by kernel_rfl) ⟨trivial, trivial⟩ h

-- coppicer/edit.Shared
def VC34_k1 (K : (List Int) × Int → Prop) (below : (List (List Int))) : Prop :=
  (inIdx (0 : Int) below.length ∧ VC41 (below.getD (((0 : Int)).toNat) ([] : (List Int))) (fun (ret89v : (List Int)) => K (ret89v, (0 : Int))))

def VC34_k2 (i : Int) (X1 : Int × (List (List Int)) → Prop) (row : (List (List Int))) : Prop :=
  (InR (i - (1 : Int)) ∧ X1 ((i - (1 : Int)), row))

def VC34_k3 (j : Int) (X2 : Int × (List (List Int)) → Prop) (row2 : (List (List Int))) : Prop :=
  (InR (j - (1 : Int)) ∧ X2 ((j - (1 : Int)), row2))

def VC34_l2 (u : (List Int)) (v : (List Int)) (i : Int) (below : (List (List Int))) (X1 : Int × (List (List Int)) → Prop) (j : Int) (row : (List (List Int))) (X2 : Int × (List (List Int)) → Prop) : Prop :=
  (((decide ((0 : Int) ≤ j)) = true → (inIdx j below.length ∧ InR (j + (1 : Int)) ∧ inIdx (j + (1 : Int)) row.length ∧ VC45 (below.getD ((j).toNat) ([] : (List Int))) (row.getD (((j + (1 : Int))).toNat) ([] : (List Int))) (fun (ret53v : (List Int)) => (inIdx j row.length ∧ (inIdx i u.length ∧ inIdx j v.length ∧ (((decide ((u.getD (i).toNat (0 : Int)) = (v.getD (j).toNat (0 : Int)))) = true → (inIdx j (row.set ((j).toNat) ret53v).length ∧ inIdx i u.length ∧ InR (j + (1 : Int)) ∧ inIdx (j + (1 : Int)) below.length ∧ VC44 [[(u.getD (i).toNat (0 : Int))], (below.getD (((j + (1 : Int))).toNat) ([] : (List Int)))] (fun (ret82v : (List Int)) => VC45 ((row.set ((j).toNat) ret53v).getD ((j).toNat) ([] : (List Int))) ret82v (fun (ret83v : (List Int)) => (inIdx j (row.set ((j).toNat) ret53v).length ∧ VC34_k3 j X2 ((row.set ((j).toNat) ret53v).set ((j).toNat) ret83v)))))) ∧ ((decide ((u.getD (i).toNat (0 : Int)) = (v.getD (j).toNat (0 : Int)))) = false → VC34_k3 j X2 (row.set ((j).toNat) ret53v)))))))) ∧ ((decide ((0 : Int) ≤ j)) = false → VC34_k2 i X1 row))

def VC34_l1 (u : (List Int)) (v : (List Int)) (K : (List Int) × Int → Prop) (i : Int) (below : (List (List Int))) (X1 : Int × (List (List Int)) → Prop) : Prop :=
  (((decide ((0 : Int) ≤ i)) = true → (InR ((v.length : Int) + (1 : Int)) ∧ room ((v.length : Int) + (1 : Int)) ∧ (InR ((v.length : Int) - (1 : Int)) ∧ Loop (σ := Int × (List (List Int))) (fun s X => VC34_l2 u v i below X1 s.1 s.2 X) (((v.length : Int) - (1 : Int)), (List.replicate (((v.length : Int) + (1 : Int))).toNat ([] : (List Int))))))) ∧ ((decide ((0 : Int) ≤ i)) = false → VC34_k1 K below))

def VC34 (u : (List Int)) (v : (List Int)) (K : (List Int) × Int → Prop) : Prop :=
  VC38 [u, v] (fun (ret15v : Int) => (((!decide (ret15v = (0 : Int))) = true → K (([] : (List Int)), ret15v)) ∧ ((!decide (ret15v = (0 : Int))) = false → (InR ((v.length : Int) + (1 : Int)) ∧ room ((v.length : Int) + (1 : Int)) ∧ (InR ((u.length : Int) - (1 : Int)) ∧ Loop (σ := Int × (List (List Int))) (fun s X => VC34_l1 u v K s.1 s.2 X) (((u.length : Int) - (1 : Int)), (List.replicate (((v.length : Int) + (1 : Int))).toNat ([] : (List Int)))))))))

set_option maxHeartbeats 4000000 in
theorem link34 (u : (List Int)) (v : (List Int)) (K : (List Int) × Int → Prop) (h : VC34 u v K) : ACalls Try.prog 34 [toV1 (.sl (.int .u8)) u, toV1 (.sl (.int .u8)) v] (fun res => ∃ y, res = (fun y => [toV1 (.sl (.int .u8)) y.1, toV1 (.int .i64) y.2]) y ∧ K y) := by
  refine acalls_of_aw [(.sl (.int .u8)), (.int .i64)] [.t 4, .t 5] Try.func34 rfl rfl rfl ?_
  unfold VC34 at h
  refine aw_seq ?_
  refine aw_region ?_
  refine awl_runp 2 [0, 1] [] (ob := (True ∧ True ∧ True)) (st' := (⟨90, [(0, [], .v (.c (.p (.sl (.int .u8)) u))), (1, [], .v (.c (.p (.sl (.int .u8)) v)))], []⟩ : St)) (by kernel_rfl) ⟨trivial, trivial, trivial⟩ ?_
  refine awl_nil ?_
  refine thenQ_n ?_
  refine aw_seq ?_
  refine aw_seq ?_
  refine aw_region ?_
  refine awl_runp 3 [0, 1, 14] [14] (ob := (True ∧ True ∧ True ∧ True)) (st' := (⟨90, [(0, [], .v (.c (.p (.sl (.int .u8)) u))), (1, [], .v (.c (.p (.sl (.int .u8)) v))), (14, [], .v (.c (.own 14)))], [(14, [], .arr 22 (.sl (.int .u8)) [u, v])]⟩ : St)) (by kernel_rfl) ⟨trivial, trivial, trivial, trivial⟩ ?_
  refine awl_callk (p := []) (l := [toV1 (.sl (.sl (.int .u8))) [u, v]]) (cl := []) true [.d (.sl (.sl (.int .u8)))] [0, 1, 15] [] (fun (ret15v : Int) => (((!decide (ret15v = (0 : Int))) = true → K (([] : (List Int)), ret15v)) ∧ ((!decide (ret15v = (0 : Int))) = false → (InR ((v.length : Int) + (1 : Int)) ∧ room ((v.length : Int) + (1 : Int)) ∧ (InR ((u.length : Int) - (1 : Int)) ∧ Loop (σ := Int × (List (List Int))) (fun s X => VC34_l1 u v K s.1 s.2 X) (((u.length : Int) - (1 : Int)), (List.replicate (((v.length : Int) + (1 : Int))).toNat ([] : (List Int))))))))) (fun ret15v => [toV1 (.int .i64) ret15v]) (fun ret15v => (⟨90, [(0, [], .v (.c (.p (.sl (.int .u8)) u))), (1, [], .v (.c (.p (.sl (.int .u8)) v))), (15, [], .v (.c (.p (.int .i64) ret15v)))], []⟩ : St)) (by kernel_rfl) rfl (by kernel_rfl) rfl (by kernel_rfl) Try.call38 (by kernel_rfl) (fun ret15v => by kernel_rfl) (fun _ _ => rfl) (fun hg => link38 [u, v] _ h) (fun hg => noF hg) (fun ret15v h => ?_)
  have h : (((!decide (ret15v = (0 : Int))) = true → K (([] : (List Int)), ret15v)) ∧ ((!decide (ret15v = (0 : Int))) = false → (InR ((v.length : Int) + (1 : Int)) ∧ room ((v.length : Int) + (1 : Int)) ∧ (InR ((u.length : Int) - (1 : Int)) ∧ Loop (σ := Int × (List (List Int))) (fun s X => VC34_l1 u v K s.1 s.2 X) (((u.length : Int) - (1 : Int)), (List.replicate (((v.length : Int) + (1 : Int))).toNat ([] : (List Int)))))))) := h
  refine awl_runp 1 [0, 1, 6] [] (ob := (True ∧ True)) (st' := (⟨90, [(0, [], .v (.c (.p (.sl (.int .u8)) u))), (1, [], .v (.c (.p (.sl (.int .u8)) v))), (6, [], .v (.c (.p (.int .i64) ret15v)))], []⟩ : St)) (by kernel_rfl) ⟨trivial, trivial⟩ ?_
  refine awl_nil ?_
  refine thenQ_n ?_
  refine aw_seq ?_
  refine aw_region ?_
  refine awl_runp 2 [0, 1, 6, 17] [] (ob := (True ∧ True ∧ True)) (st' := (⟨90, [(0, [], .v (.c (.p (.sl (.int .u8)) u))), (1, [], .v (.c (.p (.sl (.int .u8)) v))), (6, [], .v (.c (.p (.int .i64) ret15v))), (17, [], .v (.c (.p .bool (!decide (ret15v = (0 : Int))))))], []⟩ : St)) (by kernel_rfl) ⟨trivial, trivial, trivial⟩ ?_
  refine awl_nil ?_
  refine thenQ_n ?_
  refine aw_cond (b := (!decide (ret15v = (0 : Int)))) (by kernel_rfl) (fun hb => ?_) (fun hb => ?_)
  · have h := h.1 hb
    refine aw_seq ?_
    refine aw_region ?_
    refine awl_runp 3 [4, 5] [] (ob := (True ∧ True ∧ True ∧ True)) (st' := (⟨90, [(4, [], .v (.c (.nils))), (5, [], .v (.c (.p (.int .i64) ret15v)))], []⟩ : St)) (by kernel_rfl) ⟨trivial, trivial, trivial, trivial⟩ ?_
    refine awl_nil ?_
    refine thenQ_n ?_
    refine aw_ret ?_
    refine thenQ_r ?_
    exact retQ_r (σ := (List Int) × Int) (R := (fun y => [toV1 (.sl (.int .u8)) y.1, toV1 (.int .i64) y.2])) (ob := (True ∧ True ∧ True)) (([] : (List Int)), ret15v) (by kernel_rfl) ⟨trivial, trivial, trivial⟩ h
  · have h := h.2 hb
    refine aw_skip ?_
    refine thenQ_n ?_
    refine aw_seq ?_
    refine aw_region ?_
    refine awl_runp 1 [0, 1, 7] [] (ob := (True ∧ True)) (st' := (⟨90, [(0, [], .v (.c (.p (.sl (.int .u8)) u))), (1, [], .v (.c (.p (.sl (.int .u8)) v))), (7, [], .v (.c (.fn 45 [])))], []⟩ : St)) (by kernel_rfl) ⟨trivial, trivial⟩ ?_
    refine awl_nil ?_
    refine thenQ_n ?_
    refine aw_seq ?_
    refine aw_region ?_
    obtain ⟨o1, o2, h⟩ := h
    refine awl_runp 5 [0, 1, 7, 8] [22] (ob := (True ∧ True ∧ InR ((v.length : Int) + (1 : Int)) ∧ room ((v.length : Int) + (1 : Int)) ∧ True ∧ True)) (st' := (⟨90, [(0, [], .v (.c (.p (.sl (.int .u8)) u))), (1, [], .v (.c (.p (.sl (.int .u8)) v))), (7, [], .v (.c (.fn 45 []))), (8, [], .v (.c (.own 22)))], [(22, [], .arr 22 (.sl (.int .u8)) (List.replicate (((v.length : Int) + (1 : Int))).toNat ([] : (List Int))))]⟩ : St)) (by kernel_rfl) ⟨trivial, trivial, o1, o2, trivial, trivial⟩ ?_
    refine awl_nil ?_
    refine thenQ_n ?_
    refine aw_seq ?_
    refine aw_seq ?_
    refine aw_region ?_
    obtain ⟨o1, h⟩ := h
    refine awl_runp 4 [0, 1, 7, 8, 9] [22] (ob := (True ∧ True ∧ InR ((u.length : Int) - (1 : Int)) ∧ True ∧ True)) (st' := (⟨90, [(0, [], .v (.c (.p (.sl (.int .u8)) u))), (1, [], .v (.c (.p (.sl (.int .u8)) v))), (7, [], .v (.c (.fn 45 []))), (8, [], .v (.c (.own 22))), (9, [], .v (.c (.p (.int .i64) ((u.length : Int) - (1 : Int)))))], [(22, [], .arr 22 (.sl (.int .u8)) (List.replicate (((v.length : Int) + (1 : Int))).toNat ([] : (List Int))))]⟩ : St)) (by kernel_rfl) ⟨trivial, trivial, o1, trivial, trivial⟩ ?_
    refine awl_nil ?_
    refine thenQ_n ?_
    refine withJoin (σ := (List (List Int))) (fun s => (⟨90, [(8, [], .v (.c (.own 22)))], [(22, [], .arr 22 (.sl (.int .u8)) s)]⟩ : St)) (fun s => VC34_k1 K s) (fun below h => ?_) (fun rest1 => ?_)
    · have h : VC34_k1 K below := h
      unfold VC34_k1 at h
      refine thenQ_n ?_
      refine aw_seq ?_
      refine aw_region ?_
      obtain ⟨o1, h⟩ := h
      refine awl_runp 3 [88] [] (ob := (True ∧ inIdx (0 : Int) below.length ∧ True ∧ True)) (st' := (⟨90, [(88, [], .v (.c (.p (.sl (.int .u8)) (below.getD (((0 : Int)).toNat) ([] : (List Int))))))], []⟩ : St)) (by kernel_rfl) ⟨trivial, o1, trivial, trivial⟩ ?_
      refine awl_callOk (e := 5) (t := (.int .u8)) (l := [toV1 (.sl (.int .u8)) (below.getD (((0 : Int)).toNat) ([] : (List Int)))]) (cl := []) false [.d (.sl (.int .u8))] [89] [89] (fun (ret89v : (List Int)) => K (ret89v, (0 : Int))) (fun ret89v => (⟨90, [(89, [], .v (.c (.own 89)))], [(89, [], .arr 5 (.int .u8) ret89v)]⟩ : St)) rfl rfl (by kernel_rfl) rfl (by kernel_rfl) Try.call41 (by kernel_rfl) (fun e => by cases e) (fun ret89v => by kernel_rfl) (link41 (below.getD (((0 : Int)).toNat) ([] : (List Int))) _ h) (fun ret89v h => ?_)
      have h : K (ret89v, (0 : Int)) := h
      refine awl_runp 2 [4, 5] [89] (ob := (True ∧ True ∧ True)) (st' := (⟨90, [(4, [], .v (.c (.own 89))), (5, [], .v (.c (.p (.int .i64) (0 : Int))))], [(89, [], .arr 5 (.int .u8) ret89v)]⟩ : St)) (by kernel_rfl) ⟨trivial, trivial, trivial⟩ ?_
      refine awl_nil ?_
      refine thenQ_n ?_
      refine aw_conv [.freeze 89] (st' := (⟨90, [(4, [], .v (.c (.p (.sl (.int .u8)) ret89v))), (5, [], .v (.c (.p (.int .i64) (0 : Int))))], []⟩ : St)) (by kernel_rfl) ?_
      refine aw_ret ?_
      exact retQ_r (σ := (List Int) × Int) (R := (fun y => [toV1 (.sl (.int .u8)) y.1, toV1 (.int .i64) y.2])) (ob := (True ∧ True ∧ True)) (ret89v, (0 : Int)) (by kernel_rfl) ⟨trivial, trivial, trivial⟩ h
    · refine aw_block ?_
      refine aw_loop (σ := Int × (List (List Int))) (fun s => (⟨90, [(0, [], .v (.c (.p (.sl (.int .u8)) u))), (1, [], .v (.c (.p (.sl (.int .u8)) v))), (7, [], .v (.c (.fn 45 []))), (8, [], .v (.c (.own 22))), (9, [], .v (.c (.p (.int .i64) s.1)))], [(22, [], .arr 22 (.sl (.int .u8)) s.2)]⟩ : St)) (fun s X => VC34_l1 u v K s.1 s.2 X) (s0 := (((u.length : Int) - (1 : Int)), (List.replicate (((v.length : Int) + (1 : Int))).toNat ([] : (List Int))))) (fun s X1 h => ?_) h
      obtain ⟨i, below⟩ := s
      have h : VC34_l1 u v K i below X1 := h
      unfold VC34_l1 at h
      refine aw_seq ?_
      refine aw_seq ?_
      refine aw_region ?_
      refine awl_runp 2 [0, 1, 7, 8, 9, 27] [22] (ob := (True ∧ True ∧ True)) (st' := (⟨90, [(0, [], .v (.c (.p (.sl (.int .u8)) u))), (1, [], .v (.c (.p (.sl (.int .u8)) v))), (7, [], .v (.c (.fn 45 []))), (8, [], .v (.c (.own 22))), (9, [], .v (.c (.p (.int .i64) i))), (27, [], .v (.c (.p .bool (decide ((0 : Int) ≤ i)))))], [(22, [], .arr 22 (.sl (.int .u8)) below)]⟩ : St)) (by kernel_rfl) ⟨trivial, trivial, trivial⟩ ?_
      refine awl_nil ?_
      refine thenQ_n ?_
      refine aw_cond (b := (decide ((0 : Int) ≤ i))) (by kernel_rfl) (fun hb => ?_) (fun hb => ?_)
      · have h := h.1 hb
        refine aw_skip ?_
        refine thenQ_n ?_
        refine aw_seq ?_
        refine aw_block ?_
        refine aw_seq ?_
        refine aw_region ?_
        obtain ⟨o1, o2, h⟩ := h
        refine awl_runp 5 [0, 1, 7, 8, 9, 10] [22, 33] (ob := (True ∧ True ∧ InR ((v.length : Int) + (1 : Int)) ∧ room ((v.length : Int) + (1 : Int)) ∧ True ∧ True)) (st' := (⟨90, [(0, [], .v (.c (.p (.sl (.int .u8)) u))), (1, [], .v (.c (.p (.sl (.int .u8)) v))), (7, [], .v (.c (.fn 45 []))), (8, [], .v (.c (.own 22))), (9, [], .v (.c (.p (.int .i64) i))), (10, [], .v (.c (.own 33)))], [(22, [], .arr 22 (.sl (.int .u8)) below), (33, [], .arr 22 (.sl (.int .u8)) (List.replicate (((v.length : Int) + (1 : Int))).toNat ([] : (List Int))))]⟩ : St)) (by kernel_rfl) ⟨trivial, trivial, o1, o2, trivial, trivial⟩ ?_
        refine awl_nil ?_
        refine thenQ_n ?_
        refine aw_seq ?_
        refine aw_seq ?_
        refine aw_region ?_
        obtain ⟨o1, h⟩ := h
        refine awl_runp 4 [0, 1, 7, 8, 9, 10, 11] [22, 33] (ob := (True ∧ True ∧ InR ((v.length : Int) - (1 : Int)) ∧ True ∧ True)) (st' := (⟨90, [(0, [], .v (.c (.p (.sl (.int .u8)) u))), (1, [], .v (.c (.p (.sl (.int .u8)) v))), (7, [], .v (.c (.fn 45 []))), (8, [], .v (.c (.own 22))), (9, [], .v (.c (.p (.int .i64) i))), (10, [], .v (.c (.own 33))), (11, [], .v (.c (.p (.int .i64) ((v.length : Int) - (1 : Int)))))], [(22, [], .arr 22 (.sl (.int .u8)) below), (33, [], .arr 22 (.sl (.int .u8)) (List.replicate (((v.length : Int) + (1 : Int))).toNat ([] : (List Int))))]⟩ : St)) (by kernel_rfl) ⟨trivial, trivial, o1, trivial, trivial⟩ ?_
        refine awl_nil ?_
        refine thenQ_n ?_
        refine withJoin (σ := (List (List Int))) (fun s => (⟨90, [(0, [], .v (.c (.p (.sl (.int .u8)) u))), (1, [], .v (.c (.p (.sl (.int .u8)) v))), (7, [], .v (.c (.fn 45 []))), (9, [], .v (.c (.p (.int .i64) i))), (10, [], .v (.c (.own 33)))], [(33, [], .arr 22 (.sl (.int .u8)) s)]⟩ : St)) (fun s => VC34_k2 i X1 s) (fun row h => ?_) (fun rest2 => ?_)
        · have h : VC34_k2 i X1 row := h
          unfold VC34_k2 at h
          refine thenQ_n ?_
          refine aw_region ?_
          refine awl_runp 2 [0, 1, 7, 8, 9] [33] (ob := (True ∧ True ∧ True)) (st' := (⟨90, [(0, [], .v (.c (.p (.sl (.int .u8)) u))), (1, [], .v (.c (.p (.sl (.int .u8)) v))), (7, [], .v (.c (.fn 45 []))), (8, [], .v (.c (.own 33))), (9, [], .v (.c (.p (.int .i64) i)))], [(33, [], .arr 22 (.sl (.int .u8)) row)]⟩ : St)) (by kernel_rfl) ⟨trivial, trivial, trivial⟩ ?_
          refine awl_nil ?_
          refine blockQ_n ?_
          refine thenQ_n ?_
          refine aw_region ?_
          obtain ⟨o1, h⟩ := h
          refine awl_runp 3 [0, 1, 7, 8, 9] [33] (ob := (True ∧ InR (i - (1 : Int)) ∧ True ∧ True)) (st' := (⟨90, [(0, [], .v (.c (.p (.sl (.int .u8)) u))), (1, [], .v (.c (.p (.sl (.int .u8)) v))), (7, [], .v (.c (.fn 45 []))), (8, [], .v (.c (.own 33))), (9, [], .v (.c (.p (.int .i64) (i - (1 : Int)))))], [(33, [], .arr 22 (.sl (.int .u8)) row)]⟩ : St)) (by kernel_rfl) ⟨trivial, o1, trivial, trivial⟩ ?_
          refine awl_conv [.ren 33 20033, .ren 20033 22] (st' := (⟨90, [(0, [], .v (.c (.p (.sl (.int .u8)) u))), (1, [], .v (.c (.p (.sl (.int .u8)) v))), (7, [], .v (.c (.fn 45 []))), (8, [], .v (.c (.own 22))), (9, [], .v (.c (.p (.int .i64) (i - (1 : Int)))))], [(22, [], .arr 22 (.sl (.int .u8)) row)]⟩ : St)) (by kernel_rfl) ?_
          refine awl_nil ?_
          exact thenQ_n ⟨((i - (1 : Int)), row), rfl, h⟩
        · refine aw_block ?_
          refine aw_loop (σ := Int × (List (List Int))) (fun s => (⟨90, [(0, [], .v (.c (.p (.sl (.int .u8)) u))), (1, [], .v (.c (.p (.sl (.int .u8)) v))), (7, [], .v (.c (.fn 45 []))), (8, [], .v (.c (.own 22))), (9, [], .v (.c (.p (.int .i64) i))), (10, [], .v (.c (.own 33))), (11, [], .v (.c (.p (.int .i64) s.1)))], [(22, [], .arr 22 (.sl (.int .u8)) below), (33, [], .arr 22 (.sl (.int .u8)) s.2)]⟩ : St)) (fun s X => VC34_l2 u v i below X1 s.1 s.2 X) (s0 := (((v.length : Int) - (1 : Int)), (List.replicate (((v.length : Int) + (1 : Int))).toNat ([] : (List Int))))) (fun s X2 h => ?_) h
          obtain ⟨j, row⟩ := s
          have h : VC34_l2 u v i below X1 j row X2 := h
          unfold VC34_l2 at h
          refine aw_seq ?_
          refine aw_seq ?_
          refine aw_region ?_
          refine awl_runp 2 [0, 1, 7, 8, 9, 10, 11, 38] [22, 33] (ob := (True ∧ True ∧ True)) (st' := (⟨90, [(0, [], .v (.c (.p (.sl (.int .u8)) u))), (1, [], .v (.c (.p (.sl (.int .u8)) v))), (7, [], .v (.c (.fn 45 []))), (8, [], .v (.c (.own 22))), (9, [], .v (.c (.p (.int .i64) i))), (10, [], .v (.c (.own 33))), (11, [], .v (.c (.p (.int .i64) j))), (38, [], .v (.c (.p .bool (decide ((0 : Int) ≤ j)))))], [(22, [], .arr 22 (.sl (.int .u8)) below), (33, [], .arr 22 (.sl (.int .u8)) row)]⟩ : St)) (by kernel_rfl) ⟨trivial, trivial, trivial⟩ ?_
          refine awl_nil ?_
          refine thenQ_n ?_
          refine aw_cond (b := (decide ((0 : Int) ≤ j))) (by kernel_rfl) (fun hb => ?_) (fun hb => ?_)
          · have h := h.1 hb
            refine aw_skip ?_
            refine thenQ_n ?_
            refine aw_seq ?_
            refine aw_block ?_
            refine aw_seq ?_
            refine awd_begin [33] (by kernel_rfl) ?_
            obtain ⟨o1, o2, o3, h⟩ := h
            refine awd_runp (by kernel_rfl) [0, 1, 2, 3, 4, 5, 6, 7, 8, 9, 10] [0, 1, 7, 8, 9, 10, 11, 41, 42, 43, 47, 51] [22, 33] (ob := (True ∧ True ∧ True ∧ True ∧ True ∧ inIdx j below.length ∧ True ∧ True ∧ True ∧ InR (j + (1 : Int)) ∧ inIdx (j + (1 : Int)) row.length ∧ True)) (done' := [10, 9, 8, 7, 6, 5, 4, 3, 2, 1, 0]) (st' := (⟨90, [(0, [], .v (.c (.p (.sl (.int .u8)) u))), (1, [], .v (.c (.p (.sl (.int .u8)) v))), (7, [], .v (.c (.fn 45 []))), (8, [], .v (.c (.own 22))), (9, [], .v (.c (.p (.int .i64) i))), (10, [], .v (.c (.own 33))), (11, [], .v (.c (.p (.int .i64) j))), (41, [], .v (.c (.own 33))), (42, [], .v (.c (.p (.int .i64) j))), (43, [], .v (.c (.fn 45 []))), (47, [], .v (.c (.p (.sl (.int .u8)) (below.getD ((j).toNat) ([] : (List Int)))))), (51, [], .v (.c (.el 33 (((j + (1 : Int))).toNat) 1)))], [(22, [], .arr 22 (.sl (.int .u8)) below), (33, [], .arr 22 (.sl (.int .u8)) row)]⟩ : St)) (by kernel_rfl) ⟨trivial, trivial, trivial, trivial, trivial, o1, trivial, trivial, trivial, o2, o3, trivial⟩ ?_
            refine awd_one (i := 11) (by kernel_rfl) ?_
            refine adop_stepp [0, 1, 7, 8, 9, 10, 11, 41, 42, 43, 47, 52] [22, 33] (ob := True) (st' := (⟨90, [(0, [], .v (.c (.p (.sl (.int .u8)) u))), (1, [], .v (.c (.p (.sl (.int .u8)) v))), (7, [], .v (.c (.fn 45 []))), (8, [], .v (.c (.own 22))), (9, [], .v (.c (.p (.int .i64) i))), (10, [], .v (.c (.own 33))), (11, [], .v (.c (.p (.int .i64) j))), (41, [], .v (.c (.own 33))), (42, [], .v (.c (.p (.int .i64) j))), (43, [], .v (.c (.fn 45 []))), (47, [], .v (.c (.p (.sl (.int .u8)) (below.getD ((j).toNat) ([] : (List Int)))))), (52, [], .v (.c (.p (.sl (.int .u8)) (row.getD (((j + (1 : Int))).toNat) ([] : (List Int))))))], [(22, [], .arr 22 (.sl (.int .u8)) below), (33, [], .arr 22 (.sl (.int .u8)) row)]⟩ : St)) rfl (by kernel_rfl) trivial ?_
            refine awd_one (i := 12) (by kernel_rfl) ?_
            refine adop_callk (p := []) (l := [toV1 (.sl (.int .u8)) (below.getD ((j).toNat) ([] : (List Int))), toV1 (.sl (.int .u8)) (row.getD (((j + (1 : Int))).toNat) ([] : (List Int)))]) (cl := []) false [.d (.sl (.int .u8)), .d (.sl (.int .u8))] [0, 1, 7, 8, 9, 10, 11, 41, 42, 53] [22, 33] (fun (ret53v : (List Int)) => (inIdx j row.length ∧ (inIdx i u.length ∧ inIdx j v.length ∧ (((decide ((u.getD (i).toNat (0 : Int)) = (v.getD (j).toNat (0 : Int)))) = true → (inIdx j (row.set ((j).toNat) ret53v).length ∧ inIdx i u.length ∧ InR (j + (1 : Int)) ∧ inIdx (j + (1 : Int)) below.length ∧ VC44 [[(u.getD (i).toNat (0 : Int))], (below.getD (((j + (1 : Int))).toNat) ([] : (List Int)))] (fun (ret82v : (List Int)) => VC45 ((row.set ((j).toNat) ret53v).getD ((j).toNat) ([] : (List Int))) ret82v (fun (ret83v : (List Int)) => (inIdx j (row.set ((j).toNat) ret53v).length ∧ VC34_k3 j X2 ((row.set ((j).toNat) ret53v).set ((j).toNat) ret83v)))))) ∧ ((decide ((u.getD (i).toNat (0 : Int)) = (v.getD (j).toNat (0 : Int)))) = false → VC34_k3 j X2 (row.set ((j).toNat) ret53v)))))) (fun ret53v => [toV1 (.sl (.int .u8)) ret53v]) (fun ret53v => (⟨90, [(0, [], .v (.c (.p (.sl (.int .u8)) u))), (1, [], .v (.c (.p (.sl (.int .u8)) v))), (7, [], .v (.c (.fn 45 []))), (8, [], .v (.c (.own 22))), (9, [], .v (.c (.p (.int .i64) i))), (10, [], .v (.c (.own 33))), (11, [], .v (.c (.p (.int .i64) j))), (41, [], .v (.c (.own 33))), (42, [], .v (.c (.p (.int .i64) j))), (53, [], .v (.c (.p (.sl (.int .u8)) ret53v)))], [(22, [], .arr 22 (.sl (.int .u8)) below), (33, [], .arr 22 (.sl (.int .u8)) row)]⟩ : St)) rfl (by kernel_rfl) rfl (by kernel_rfl) rfl (by kernel_rfl) Try.call45 (by kernel_rfl) (fun ret53v => by kernel_rfl) (fun e => by cases e) (fun hg => link45 (below.getD ((j).toNat) ([] : (List Int))) (row.getD (((j + (1 : Int))).toNat) ([] : (List Int))) _ h) (fun hg => noF hg) (fun ret53v h => ?_)
            have h : (inIdx j row.length ∧ (inIdx i u.length ∧ inIdx j v.length ∧ (((decide ((u.getD (i).toNat (0 : Int)) = (v.getD (j).toNat (0 : Int)))) = true → (inIdx j (row.set ((j).toNat) ret53v).length ∧ inIdx i u.length ∧ InR (j + (1 : Int)) ∧ inIdx (j + (1 : Int)) below.length ∧ VC44 [[(u.getD (i).toNat (0 : Int))], (below.getD (((j + (1 : Int))).toNat) ([] : (List Int)))] (fun (ret82v : (List Int)) => VC45 ((row.set ((j).toNat) ret53v).getD ((j).toNat) ([] : (List Int))) ret82v (fun (ret83v : (List Int)) => (inIdx j (row.set ((j).toNat) ret53v).length ∧ VC34_k3 j X2 ((row.set ((j).toNat) ret53v).set ((j).toNat) ret83v)))))) ∧ ((decide ((u.getD (i).toNat (0 : Int)) = (v.getD (j).toNat (0 : Int)))) = false → VC34_k3 j X2 (row.set ((j).toNat) ret53v))))) := h
            obtain ⟨o1, h⟩ := h
            refine awd_runp (by kernel_rfl) [13] [0, 1, 7, 8, 9, 10, 11, 53, 54] [22, 33] (ob := (inIdx j row.length ∧ True)) (done' := [13, 12, 11, 10, 9, 8, 7, 6, 5, 4, 3, 2, 1, 0]) (st' := (⟨90, [(0, [], .v (.c (.p (.sl (.int .u8)) u))), (1, [], .v (.c (.p (.sl (.int .u8)) v))), (7, [], .v (.c (.fn 45 []))), (8, [], .v (.c (.own 22))), (9, [], .v (.c (.p (.int .i64) i))), (10, [], .v (.c (.own 33))), (11, [], .v (.c (.p (.int .i64) j))), (53, [], .v (.c (.p (.sl (.int .u8)) ret53v))), (54, [], .v (.c (.el 33 ((j).toNat) 1)))], [(22, [], .arr 22 (.sl (.int .u8)) below), (33, [], .arr 22 (.sl (.int .u8)) row)]⟩ : St)) (by kernel_rfl) ⟨o1, trivial⟩ ?_
            refine awd_one (i := 14) (by kernel_rfl) ?_
            refine adop_stepp [0, 1, 7, 8, 9, 10, 11] [22, 33] (ob := True) (st' := (⟨90, [(0, [], .v (.c (.p (.sl (.int .u8)) u))), (1, [], .v (.c (.p (.sl (.int .u8)) v))), (7, [], .v (.c (.fn 45 []))), (8, [], .v (.c (.own 22))), (9, [], .v (.c (.p (.int .i64) i))), (10, [], .v (.c (.own 33))), (11, [], .v (.c (.p (.int .i64) j)))], [(22, [], .arr 22 (.sl (.int .u8)) below), (33, [], .arr 22 (.sl (.int .u8)) (row.set ((j).toNat) ret53v))]⟩ : St)) rfl (by kernel_rfl) trivial ?_
            refine awd_done (by kernel_rfl) ?_
            refine thenQ_n ?_
            refine aw_seq ?_
            refine awd_begin [] (by kernel_rfl) ?_
            obtain ⟨o1, o2, h⟩ := h
            refine awd_runp (by kernel_rfl) [0, 1, 2, 3, 4, 5, 6, 7, 8] [0, 1, 7, 8, 9, 10, 11, 63] [22, 33] (ob := (True ∧ True ∧ inIdx i u.length ∧ True ∧ True ∧ True ∧ inIdx j v.length ∧ True ∧ True ∧ True)) (done' := [8, 7, 6, 5, 4, 3, 2, 1, 0]) (st' := (⟨90, [(0, [], .v (.c (.p (.sl (.int .u8)) u))), (1, [], .v (.c (.p (.sl (.int .u8)) v))), (7, [], .v (.c (.fn 45 []))), (8, [], .v (.c (.own 22))), (9, [], .v (.c (.p (.int .i64) i))), (10, [], .v (.c (.own 33))), (11, [], .v (.c (.p (.int .i64) j))), (63, [], .v (.c (.p .bool (decide ((u.getD (i).toNat (0 : Int)) = (v.getD (j).toNat (0 : Int)))))))], [(22, [], .arr 22 (.sl (.int .u8)) below), (33, [], .arr 22 (.sl (.int .u8)) (row.set ((j).toNat) ret53v))]⟩ : St)) (by kernel_rfl) ⟨trivial, trivial, o1, trivial, trivial, trivial, o2, trivial, trivial, trivial⟩ ?_
            refine awd_done (by kernel_rfl) ?_
            refine thenQ_n ?_
            refine withJoin (σ := (List (List Int))) (fun s => (⟨90, [(0, [], .v (.c (.p (.sl (.int .u8)) u))), (1, [], .v (.c (.p (.sl (.int .u8)) v))), (7, [], .v (.c (.fn 45 []))), (8, [], .v (.c (.own 22))), (9, [], .v (.c (.p (.int .i64) i))), (10, [], .v (.c (.own 33))), (11, [], .v (.c (.p (.int .i64) j)))], [(22, [], .arr 22 (.sl (.int .u8)) below), (33, [], .arr 22 (.sl (.int .u8)) s)]⟩ : St)) (fun s => VC34_k3 j X2 s) (fun row2 h => ?_) (fun rest3 => ?_)
            · have h : VC34_k3 j X2 row2 := h
              unfold VC34_k3 at h
              refine blockQ_n ?_
              refine thenQ_n ?_
              refine aw_region ?_
              obtain ⟨o1, h⟩ := h
              refine awl_runp 3 [0, 1, 7, 8, 9, 10, 11] [22, 33] (ob := (True ∧ InR (j - (1 : Int)) ∧ True ∧ True)) (st' := (⟨90, [(0, [], .v (.c (.p (.sl (.int .u8)) u))), (1, [], .v (.c (.p (.sl (.int .u8)) v))), (7, [], .v (.c (.fn 45 []))), (8, [], .v (.c (.own 22))), (9, [], .v (.c (.p (.int .i64) i))), (10, [], .v (.c (.own 33))), (11, [], .v (.c (.p (.int .i64) (j - (1 : Int)))))], [(22, [], .arr 22 (.sl (.int .u8)) below), (33, [], .arr 22 (.sl (.int .u8)) row2)]⟩ : St)) (by kernel_rfl) ⟨trivial, o1, trivial, trivial⟩ ?_
              refine awl_nil ?_
              exact thenQ_n ⟨((j - (1 : Int)), row2), rfl, h⟩
            · refine aw_cond (b := (decide ((u.getD (i).toNat (0 : Int)) = (v.getD (j).toNat (0 : Int))))) (by kernel_rfl) (fun hb => ?_) (fun hb => ?_)
              · have h := h.1 hb
                refine awd_begin [33] (by kernel_rfl) ?_
                obtain ⟨o1, o2, o3, o4, h⟩ := h
                refine awd_runp (by kernel_rfl) [0, 1, 2, 3, 4, 5, 7, 8, 9, 10, 12, 13, 14, 15, 16] [0, 1, 7, 8, 9, 10, 11, 64, 65, 66, 69, 74, 80] [22, 33] (ob := (True ∧ True ∧ True ∧ True ∧ True ∧ inIdx j (row.set ((j).toNat) ret53v).length ∧ True ∧ True ∧ inIdx i u.length ∧ True ∧ True ∧ True ∧ InR (j + (1 : Int)) ∧ inIdx (j + (1 : Int)) below.length ∧ True ∧ True)) (done' := [16, 15, 14, 13, 12, 10, 9, 8, 7, 5, 4, 3, 2, 1, 0]) (st' := (⟨90, [(0, [], .v (.c (.p (.sl (.int .u8)) u))), (1, [], .v (.c (.p (.sl (.int .u8)) v))), (7, [], .v (.c (.fn 45 []))), (8, [], .v (.c (.own 22))), (9, [], .v (.c (.p (.int .i64) i))), (10, [], .v (.c (.own 33))), (11, [], .v (.c (.p (.int .i64) j))), (64, [], .v (.c (.own 33))), (65, [], .v (.c (.p (.int .i64) j))), (66, [], .v (.c (.fn 45 []))), (69, [], .v (.c (.el 33 ((j).toNat) 1))), (74, [], .v (.c (.p (.int .u8) (u.getD (i).toNat (0 : Int))))), (80, [], .v (.c (.p (.sl (.int .u8)) (below.getD (((j + (1 : Int))).toNat) ([] : (List Int))))))], [(22, [], .arr 22 (.sl (.int .u8)) below), (33, [], .arr 22 (.sl (.int .u8)) (row.set ((j).toNat) ret53v))]⟩ : St)) (by kernel_rfl) ⟨trivial, trivial, trivial, trivial, trivial, o1, trivial, trivial, o2, trivial, trivial, trivial, o3, o4, trivial, trivial⟩ ?_
                refine awd_two (i := 6) (j := 11) (by kernel_rfl) ?_ ?_
                · have h := h
                  refine adop_stepp [0, 1, 7, 8, 9, 10, 11, 64, 65, 66, 70, 74, 80] [22, 33] (ob := True) (st' := (⟨90, [(0, [], .v (.c (.p (.sl (.int .u8)) u))), (1, [], .v (.c (.p (.sl (.int .u8)) v))), (7, [], .v (.c (.fn 45 []))), (8, [], .v (.c (.own 22))), (9, [], .v (.c (.p (.int .i64) i))), (10, [], .v (.c (.own 33))), (11, [], .v (.c (.p (.int .i64) j))), (64, [], .v (.c (.own 33))), (65, [], .v (.c (.p (.int .i64) j))), (66, [], .v (.c (.fn 45 []))), (70, [], .v (.c (.p (.sl (.int .u8)) ((row.set ((j).toNat) ret53v).getD ((j).toNat) ([] : (List Int)))))), (74, [], .v (.c (.p (.int .u8) (u.getD (i).toNat (0 : Int))))), (80, [], .v (.c (.p (.sl (.int .u8)) (below.getD (((j + (1 : Int))).toNat) ([] : (List Int))))))], [(22, [], .arr 22 (.sl (.int .u8)) below), (33, [], .arr 22 (.sl (.int .u8)) (row.set ((j).toNat) ret53v))]⟩ : St)) rfl (by kernel_rfl) trivial ?_
                  refine awd_one (i := 11) (by kernel_rfl) ?_
                  refine adop_stepp [0, 1, 7, 8, 9, 10, 11, 64, 65, 66, 70, 75, 80] [22, 33, 75] (ob := True) (st' := (⟨90, [(0, [], .v (.c (.p (.sl (.int .u8)) u))), (1, [], .v (.c (.p (.sl (.int .u8)) v))), (7, [], .v (.c (.fn 45 []))), (8, [], .v (.c (.own 22))), (9, [], .v (.c (.p (.int .i64) i))), (10, [], .v (.c (.own 33))), (11, [], .v (.c (.p (.int .i64) j))), (64, [], .v (.c (.own 33))), (65, [], .v (.c (.p (.int .i64) j))), (66, [], .v (.c (.fn 45 []))), (70, [], .v (.c (.p (.sl (.int .u8)) ((row.set ((j).toNat) ret53v).getD ((j).toNat) ([] : (List Int)))))), (75, [], .v (.c (.own 75))), (80, [], .v (.c (.p (.sl (.int .u8)) (below.getD (((j + (1 : Int))).toNat) ([] : (List Int))))))], [(22, [], .arr 22 (.sl (.int .u8)) below), (33, [], .arr 22 (.sl (.int .u8)) (row.set ((j).toNat) ret53v)), (75, [], .arr 5 (.int .u8) [(u.getD (i).toNat (0 : Int))])]⟩ : St)) rfl (by kernel_rfl) trivial ?_
                  refine awd_conv [.freeze 75] (st' := (⟨90, [(0, [], .v (.c (.p (.sl (.int .u8)) u))), (1, [], .v (.c (.p (.sl (.int .u8)) v))), (7, [], .v (.c (.fn 45 []))), (8, [], .v (.c (.own 22))), (9, [], .v (.c (.p (.int .i64) i))), (10, [], .v (.c (.own 33))), (11, [], .v (.c (.p (.int .i64) j))), (64, [], .v (.c (.own 33))), (65, [], .v (.c (.p (.int .i64) j))), (66, [], .v (.c (.fn 45 []))), (70, [], .v (.c (.p (.sl (.int .u8)) ((row.set ((j).toNat) ret53v).getD ((j).toNat) ([] : (List Int)))))), (75, [], .v (.c (.p (.sl (.int .u8)) [(u.getD (i).toNat (0 : Int))]))), (80, [], .v (.c (.p (.sl (.int .u8)) (below.getD (((j + (1 : Int))).toNat) ([] : (List Int))))))], [(22, [], .arr 22 (.sl (.int .u8)) below), (33, [], .arr 22 (.sl (.int .u8)) (row.set ((j).toNat) ret53v))]⟩ : St)) (by kernel_rfl) rfl ?_
                  refine awd_one (i := 17) (by kernel_rfl) ?_
                  refine adop_stepp [0, 1, 7, 8, 9, 10, 11, 64, 65, 66, 70, 81] [22, 33, 81] (ob := True) (st' := (⟨90, [(0, [], .v (.c (.p (.sl (.int .u8)) u))), (1, [], .v (.c (.p (.sl (.int .u8)) v))), (7, [], .v (.c (.fn 45 []))), (8, [], .v (.c (.own 22))), (9, [], .v (.c (.p (.int .i64) i))), (10, [], .v (.c (.own 33))), (11, [], .v (.c (.p (.int .i64) j))), (64, [], .v (.c (.own 33))), (65, [], .v (.c (.p (.int .i64) j))), (66, [], .v (.c (.fn 45 []))), (70, [], .v (.c (.p (.sl (.int .u8)) ((row.set ((j).toNat) ret53v).getD ((j).toNat) ([] : (List Int)))))), (81, [], .v (.c (.own 81)))], [(22, [], .arr 22 (.sl (.int .u8)) below), (33, [], .arr 22 (.sl (.int .u8)) (row.set ((j).toNat) ret53v)), (81, [], .arr 22 (.sl (.int .u8)) [[(u.getD (i).toNat (0 : Int))], (below.getD (((j + (1 : Int))).toNat) ([] : (List Int)))])]⟩ : St)) rfl (by kernel_rfl) trivial ?_
                  refine awd_one (i := 18) (by kernel_rfl) ?_
                  refine adop_callOk (e := 5) (t := (.int .u8)) (l := [toV1 (.sl (.sl (.int .u8))) [[(u.getD (i).toNat (0 : Int))], (below.getD (((j + (1 : Int))).toNat) ([] : (List Int)))]]) (cl := []) true [.d (.sl (.sl (.int .u8)))] [0, 1, 7, 8, 9, 10, 11, 64, 65, 66, 70, 82] [22, 33, 82] (fun (ret82v : (List Int)) => VC45 ((row.set ((j).toNat) ret53v).getD ((j).toNat) ([] : (List Int))) ret82v (fun (ret83v : (List Int)) => (inIdx j (row.set ((j).toNat) ret53v).length ∧ VC34_k3 j X2 ((row.set ((j).toNat) ret53v).set ((j).toNat) ret83v)))) (fun ret82v => (⟨90, [(0, [], .v (.c (.p (.sl (.int .u8)) u))), (1, [], .v (.c (.p (.sl (.int .u8)) v))), (7, [], .v (.c (.fn 45 []))), (8, [], .v (.c (.own 22))), (9, [], .v (.c (.p (.int .i64) i))), (10, [], .v (.c (.own 33))), (11, [], .v (.c (.p (.int .i64) j))), (64, [], .v (.c (.own 33))), (65, [], .v (.c (.p (.int .i64) j))), (66, [], .v (.c (.fn 45 []))), (70, [], .v (.c (.p (.sl (.int .u8)) ((row.set ((j).toNat) ret53v).getD ((j).toNat) ([] : (List Int)))))), (82, [], .v (.c (.own 82)))], [(22, [], .arr 22 (.sl (.int .u8)) below), (33, [], .arr 22 (.sl (.int .u8)) (row.set ((j).toNat) ret53v)), (82, [], .arr 5 (.int .u8) ret82v)]⟩ : St)) rfl rfl rfl (by kernel_rfl) rfl (by kernel_rfl) Try.call44 (by kernel_rfl) (fun _ => rfl) (fun ret82v => by kernel_rfl) (link44 [[(u.getD (i).toNat (0 : Int))], (below.getD (((j + (1 : Int))).toNat) ([] : (List Int)))] _ h) (fun ret82v h => ?_)
                  have h : VC45 ((row.set ((j).toNat) ret53v).getD ((j).toNat) ([] : (List Int))) ret82v (fun (ret83v : (List Int)) => (inIdx j (row.set ((j).toNat) ret53v).length ∧ VC34_k3 j X2 ((row.set ((j).toNat) ret53v).set ((j).toNat) ret83v))) := h
                  refine awd_conv [.freeze 82] (st' := (⟨90, [(0, [], .v (.c (.p (.sl (.int .u8)) u))), (1, [], .v (.c (.p (.sl (.int .u8)) v))), (7, [], .v (.c (.fn 45 []))), (8, [], .v (.c (.own 22))), (9, [], .v (.c (.p (.int .i64) i))), (10, [], .v (.c (.own 33))), (11, [], .v (.c (.p (.int .i64) j))), (64, [], .v (.c (.own 33))), (65, [], .v (.c (.p (.int .i64) j))), (66, [], .v (.c (.fn 45 []))), (70, [], .v (.c (.p (.sl (.int .u8)) ((row.set ((j).toNat) ret53v).getD ((j).toNat) ([] : (List Int)))))), (82, [], .v (.c (.p (.sl (.int .u8)) ret82v)))], [(22, [], .arr 22 (.sl (.int .u8)) below), (33, [], .arr 22 (.sl (.int .u8)) (row.set ((j).toNat) ret53v))]⟩ : St)) (by kernel_rfl) rfl ?_
                  refine awd_one (i := 19) (by kernel_rfl) ?_
                  refine adop_callk (p := []) (l := [toV1 (.sl (.int .u8)) ((row.set ((j).toNat) ret53v).getD ((j).toNat) ([] : (List Int))), toV1 (.sl (.int .u8)) ret82v]) (cl := []) false [.d (.sl (.int .u8)), .d (.sl (.int .u8))] [0, 1, 7, 8, 9, 10, 11, 64, 65, 83] [22, 33] (fun (ret83v : (List Int)) => (inIdx j (row.set ((j).toNat) ret53v).length ∧ VC34_k3 j X2 ((row.set ((j).toNat) ret53v).set ((j).toNat) ret83v))) (fun ret83v => [toV1 (.sl (.int .u8)) ret83v]) (fun ret83v => (⟨90, [(0, [], .v (.c (.p (.sl (.int .u8)) u))), (1, [], .v (.c (.p (.sl (.int .u8)) v))), (7, [], .v (.c (.fn 45 []))), (8, [], .v (.c (.own 22))), (9, [], .v (.c (.p (.int .i64) i))), (10, [], .v (.c (.own 33))), (11, [], .v (.c (.p (.int .i64) j))), (64, [], .v (.c (.own 33))), (65, [], .v (.c (.p (.int .i64) j))), (83, [], .v (.c (.p (.sl (.int .u8)) ret83v)))], [(22, [], .arr 22 (.sl (.int .u8)) below), (33, [], .arr 22 (.sl (.int .u8)) (row.set ((j).toNat) ret53v))]⟩ : St)) rfl (by kernel_rfl) rfl (by kernel_rfl) rfl (by kernel_rfl) Try.call45 (by kernel_rfl) (fun ret83v => by kernel_rfl) (fun e => by cases e) (fun hg => link45 ((row.set ((j).toNat) ret53v).getD ((j).toNat) ([] : (List Int))) ret82v _ h) (fun hg => noF hg) (fun ret83v h => ?_)
                  have h : (inIdx j (row.set ((j).toNat) ret53v).length ∧ VC34_k3 j X2 ((row.set ((j).toNat) ret53v).set ((j).toNat) ret83v)) := h
                  obtain ⟨o1, h⟩ := h
                  refine awd_runp (by kernel_rfl) [20] [0, 1, 7, 8, 9, 10, 11, 83, 84] [22, 33] (ob := (inIdx j (row.set ((j).toNat) ret53v).length ∧ True)) (done' := [20, 19, 18, 17, 11, 6, 16, 15, 14, 13, 12, 10, 9, 8, 7, 5, 4, 3, 2, 1, 0]) (st' := (⟨90, [(0, [], .v (.c (.p (.sl (.int .u8)) u))), (1, [], .v (.c (.p (.sl (.int .u8)) v))), (7, [], .v (.c (.fn 45 []))), (8, [], .v (.c (.own 22))), (9, [], .v (.c (.p (.int .i64) i))), (10, [], .v (.c (.own 33))), (11, [], .v (.c (.p (.int .i64) j))), (83, [], .v (.c (.p (.sl (.int .u8)) ret83v))), (84, [], .v (.c (.el 33 ((j).toNat) 1)))], [(22, [], .arr 22 (.sl (.int .u8)) below), (33, [], .arr 22 (.sl (.int .u8)) (row.set ((j).toNat) ret53v))]⟩ : St)) (by kernel_rfl) ⟨o1, trivial⟩ ?_
                  refine awd_one (i := 21) (by kernel_rfl) ?_
                  refine adop_stepp [0, 1, 7, 8, 9, 10, 11] [22, 33] (ob := True) (st' := (⟨90, [(0, [], .v (.c (.p (.sl (.int .u8)) u))), (1, [], .v (.c (.p (.sl (.int .u8)) v))), (7, [], .v (.c (.fn 45 []))), (8, [], .v (.c (.own 22))), (9, [], .v (.c (.p (.int .i64) i))), (10, [], .v (.c (.own 33))), (11, [], .v (.c (.p (.int .i64) j)))], [(22, [], .arr 22 (.sl (.int .u8)) below), (33, [], .arr 22 (.sl (.int .u8)) ((row.set ((j).toNat) ret53v).set ((j).toNat) ret83v))]⟩ : St)) rfl (by kernel_rfl) trivial ?_
                  refine awd_done (by kernel_rfl) ?_
                  exact rest3 ((row.set ((j).toNat) ret53v).set ((j).toNat) ret83v) h
                · have h := h
                  refine adop_stepp [0, 1, 7, 8, 9, 10, 11, 64, 65, 66, 69, 75, 80] [22, 33, 75] (ob := True) (st' := (⟨90, [(0, [], .v (.c (.p (.sl (.int .u8)) u))), (1, [], .v (.c (.p (.sl (.int .u8)) v))), (7, [], .v (.c (.fn 45 []))), (8, [], .v (.c (.own 22))), (9, [], .v (.c (.p (.int .i64) i))), (10, [], .v (.c (.own 33))), (11, [], .v (.c (.p (.int .i64) j))), (64, [], .v (.c (.own 33))), (65, [], .v (.c (.p (.int .i64) j))), (66, [], .v (.c (.fn 45 []))), (69, [], .v (.c (.el 33 ((j).toNat) 1))), (75, [], .v (.c (.own 75))), (80, [], .v (.c (.p (.sl (.int .u8)) (below.getD (((j + (1 : Int))).toNat) ([] : (List Int))))))], [(22, [], .arr 22 (.sl (.int .u8)) below), (33, [], .arr 22 (.sl (.int .u8)) (row.set ((j).toNat) ret53v)), (75, [], .arr 5 (.int .u8) [(u.getD (i).toNat (0 : Int))])]⟩ : St)) rfl (by kernel_rfl) trivial ?_
                  refine awd_conv [.freeze 75] (st' := (⟨90, [(0, [], .v (.c (.p (.sl (.int .u8)) u))), (1, [], .v (.c (.p (.sl (.int .u8)) v))), (7, [], .v (.c (.fn 45 []))), (8, [], .v (.c (.own 22))), (9, [], .v (.c (.p (.int .i64) i))), (10, [], .v (.c (.own 33))), (11, [], .v (.c (.p (.int .i64) j))), (64, [], .v (.c (.own 33))), (65, [], .v (.c (.p (.int .i64) j))), (66, [], .v (.c (.fn 45 []))), (69, [], .v (.c (.el 33 ((j).toNat) 1))), (75, [], .v (.c (.p (.sl (.int .u8)) [(u.getD (i).toNat (0 : Int))]))), (80, [], .v (.c (.p (.sl (.int .u8)) (below.getD (((j + (1 : Int))).toNat) ([] : (List Int))))))], [(22, [], .arr 22 (.sl (.int .u8)) below), (33, [], .arr 22 (.sl (.int .u8)) (row.set ((j).toNat) ret53v))]⟩ : St)) (by kernel_rfl) rfl ?_
                  refine awd_two (i := 6) (j := 17) (by kernel_rfl) ?_ ?_
                  · have h := h
                    refine adop_stepp [0, 1, 7, 8, 9, 10, 11, 64, 65, 66, 70, 75, 80] [22, 33] (ob := True) (st' := (⟨90, [(0, [], .v (.c (.p (.sl (.int .u8)) u))), (1, [], .v (.c (.p (.sl (.int .u8)) v))), (7, [], .v (.c (.fn 45 []))), (8, [], .v (.c (.own 22))), (9, [], .v (.c (.p (.int .i64) i))), (10, [], .v (.c (.own 33))), (11, [], .v (.c (.p (.int .i64) j))), (64, [], .v (.c (.own 33))), (65, [], .v (.c (.p (.int .i64) j))), (66, [], .v (.c (.fn 45 []))), (70, [], .v (.c (.p (.sl (.int .u8)) ((row.set ((j).toNat) ret53v).getD ((j).toNat) ([] : (List Int)))))), (75, [], .v (.c (.p (.sl (.int .u8)) [(u.getD (i).toNat (0 : Int))]))), (80, [], .v (.c (.p (.sl (.int .u8)) (below.getD (((j + (1 : Int))).toNat) ([] : (List Int))))))], [(22, [], .arr 22 (.sl (.int .u8)) below), (33, [], .arr 22 (.sl (.int .u8)) (row.set ((j).toNat) ret53v))]⟩ : St)) rfl (by kernel_rfl) trivial ?_
                    refine awd_one (i := 17) (by kernel_rfl) ?_
                    refine adop_stepp [0, 1, 7, 8, 9, 10, 11, 64, 65, 66, 70, 81] [22, 33, 81] (ob := True) (st' := (⟨90, [(0, [], .v (.c (.p (.sl (.int .u8)) u))), (1, [], .v (.c (.p (.sl (.int .u8)) v))), (7, [], .v (.c (.fn 45 []))), (8, [], .v (.c (.own 22))), (9, [], .v (.c (.p (.int .i64) i))), (10, [], .v (.c (.own 33))), (11, [], .v (.c (.p (.int .i64) j))), (64, [], .v (.c (.own 33))), (65, [], .v (.c (.p (.int .i64) j))), (66, [], .v (.c (.fn 45 []))), (70, [], .v (.c (.p (.sl (.int .u8)) ((row.set ((j).toNat) ret53v).getD ((j).toNat) ([] : (List Int)))))), (81, [], .v (.c (.own 81)))], [(22, [], .arr 22 (.sl (.int .u8)) below), (33, [], .arr 22 (.sl (.int .u8)) (row.set ((j).toNat) ret53v)), (81, [], .arr 22 (.sl (.int .u8)) [[(u.getD (i).toNat (0 : Int))], (below.getD (((j + (1 : Int))).toNat) ([] : (List Int)))])]⟩ : St)) rfl (by kernel_rfl) trivial ?_
                    refine awd_one (i := 18) (by kernel_rfl) ?_
                    refine adop_callOk (e := 5) (t := (.int .u8)) (l := [toV1 (.sl (.sl (.int .u8))) [[(u.getD (i).toNat (0 : Int))], (below.getD (((j + (1 : Int))).toNat) ([] : (List Int)))]]) (cl := []) true [.d (.sl (.sl (.int .u8)))] [0, 1, 7, 8, 9, 10, 11, 64, 65, 66, 70, 82] [22, 33, 82] (fun (ret82v : (List Int)) => VC45 ((row.set ((j).toNat) ret53v).getD ((j).toNat) ([] : (List Int))) ret82v (fun (ret83v : (List Int)) => (inIdx j (row.set ((j).toNat) ret53v).length ∧ VC34_k3 j X2 ((row.set ((j).toNat) ret53v).set ((j).toNat) ret83v)))) (fun ret82v => (⟨90, [(0, [], .v (.c (.p (.sl (.int .u8)) u))), (1, [], .v (.c (.p (.sl (.int .u8)) v))), (7, [], .v (.c (.fn 45 []))), (8, [], .v (.c (.own 22))), (9, [], .v (.c (.p (.int .i64) i))), (10, [], .v (.c (.own 33))), (11, [], .v (.c (.p (.int .i64) j))), (64, [], .v (.c (.own 33))), (65, [], .v (.c (.p (.int .i64) j))), (66, [], .v (.c (.fn 45 []))), (70, [], .v (.c (.p (.sl (.int .u8)) ((row.set ((j).toNat) ret53v).getD ((j).toNat) ([] : (List Int)))))), (82, [], .v (.c (.own 82)))], [(22, [], .arr 22 (.sl (.int .u8)) below), (33, [], .arr 22 (.sl (.int .u8)) (row.set ((j).toNat) ret53v)), (82, [], .arr 5 (.int .u8) ret82v)]⟩ : St)) rfl rfl rfl (by kernel_rfl) rfl (by kernel_rfl) Try.call44 (by kernel_rfl) (fun _ => rfl) (fun ret82v => by kernel_rfl) (link44 [[(u.getD (i).toNat (0 : Int))], (below.getD (((j + (1 : Int))).toNat) ([] : (List Int)))] _ h) (fun ret82v h => ?_)
                    have h : VC45 ((row.set ((j).toNat) ret53v).getD ((j).toNat) ([] : (List Int))) ret82v (fun (ret83v : (List Int)) => (inIdx j (row.set ((j).toNat) ret53v).length ∧ VC34_k3 j X2 ((row.set ((j).toNat) ret53v).set ((j).toNat) ret83v))) := h
                    refine awd_conv [.freeze 82] (st' := (⟨90, [(0, [], .v (.c (.p (.sl (.int .u8)) u))), (1, [], .v (.c (.p (.sl (.int .u8)) v))), (7, [], .v (.c (.fn 45 []))), (8, [], .v (.c (.own 22))), (9, [], .v (.c (.p (.int .i64) i))), (10, [], .v (.c (.own 33))), (11, [], .v (.c (.p (.int .i64) j))), (64, [], .v (.c (.own 33))), (65, [], .v (.c (.p (.int .i64) j))), (66, [], .v (.c (.fn 45 []))), (70, [], .v (.c (.p (.sl (.int .u8)) ((row.set ((j).toNat) ret53v).getD ((j).toNat) ([] : (List Int)))))), (82, [], .v (.c (.p (.sl (.int .u8)) ret82v)))], [(22, [], .arr 22 (.sl (.int .u8)) below), (33, [], .arr 22 (.sl (.int .u8)) (row.set ((j).toNat) ret53v))]⟩ : St)) (by kernel_rfl) rfl ?_
                    refine awd_one (i := 19) (by kernel_rfl) ?_
                    refine adop_callk (p := []) (l := [toV1 (.sl (.int .u8)) ((row.set ((j).toNat) ret53v).getD ((j).toNat) ([] : (List Int))), toV1 (.sl (.int .u8)) ret82v]) (cl := []) false [.d (.sl (.int .u8)), .d (.sl (.int .u8))] [0, 1, 7, 8, 9, 10, 11, 64, 65, 83] [22, 33] (fun (ret83v : (List Int)) => (inIdx j (row.set ((j).toNat) ret53v).length ∧ VC34_k3 j X2 ((row.set ((j).toNat) ret53v).set ((j).toNat) ret83v))) (fun ret83v => [toV1 (.sl (.int .u8)) ret83v]) (fun ret83v => (⟨90, [(0, [], .v (.c (.p (.sl (.int .u8)) u))), (1, [], .v (.c (.p (.sl (.int .u8)) v))), (7, [], .v (.c (.fn 45 []))), (8, [], .v (.c (.own 22))), (9, [], .v (.c (.p (.int .i64) i))), (10, [], .v (.c (.own 33))), (11, [], .v (.c (.p (.int .i64) j))), (64, [], .v (.c (.own 33))), (65, [], .v (.c (.p (.int .i64) j))), (83, [], .v (.c (.p (.sl (.int .u8)) ret83v)))], [(22, [], .arr 22 (.sl (.int .u8)) below), (33, [], .arr 22 (.sl (.int .u8)) (row.set ((j).toNat) ret53v))]⟩ : St)) rfl (by kernel_rfl) rfl (by kernel_rfl) rfl (by kernel_rfl) Try.call45 (by kernel_rfl) (fun ret83v => by kernel_rfl) (fun e => by cases e) (fun hg => link45 ((row.set ((j).toNat) ret53v).getD ((j).toNat) ([] : (List Int))) ret82v _ h) (fun hg => noF hg) (fun ret83v h => ?_)
                    have h : (inIdx j (row.set ((j).toNat) ret53v).length ∧ VC34_k3 j X2 ((row.set ((j).toNat) ret53v).set ((j).toNat) ret83v)) := h
                    obtain ⟨o1, h⟩ := h
                    refine awd_runp (by kernel_rfl) [20] [0, 1, 7, 8, 9, 10, 11, 83, 84] [22, 33] (ob := (inIdx j (row.set ((j).toNat) ret53v).length ∧ True)) (done' := [20, 19, 18, 17, 6, 11, 16, 15, 14, 13, 12, 10, 9, 8, 7, 5, 4, 3, 2, 1, 0]) (st' := (⟨90, [(0, [], .v (.c (.p (.sl (.int .u8)) u))), (1, [], .v (.c (.p (.sl (.int .u8)) v))), (7, [], .v (.c (.fn 45 []))), (8, [], .v (.c (.own 22))), (9, [], .v (.c (.p (.int .i64) i))), (10, [], .v (.c (.own 33))), (11, [], .v (.c (.p (.int .i64) j))), (83, [], .v (.c (.p (.sl (.int .u8)) ret83v))), (84, [], .v (.c (.el 33 ((j).toNat) 1)))], [(22, [], .arr 22 (.sl (.int .u8)) below), (33, [], .arr 22 (.sl (.int .u8)) (row.set ((j).toNat) ret53v))]⟩ : St)) (by kernel_rfl) ⟨o1, trivial⟩ ?_
                    refine awd_one (i := 21) (by kernel_rfl) ?_
                    refine adop_stepp [0, 1, 7, 8, 9, 10, 11] [22, 33] (ob := True) (st' := (⟨90, [(0, [], .v (.c (.p (.sl (.int .u8)) u))), (1, [], .v (.c (.p (.sl (.int .u8)) v))), (7, [], .v (.c (.fn 45 []))), (8, [], .v (.c (.own 22))), (9, [], .v (.c (.p (.int .i64) i))), (10, [], .v (.c (.own 33))), (11, [], .v (.c (.p (.int .i64) j)))], [(22, [], .arr 22 (.sl (.int .u8)) below), (33, [], .arr 22 (.sl (.int .u8)) ((row.set ((j).toNat) ret53v).set ((j).toNat) ret83v))]⟩ : St)) rfl (by kernel_rfl) trivial ?_
                    refine awd_done (by kernel_rfl) ?_
                    exact rest3 ((row.set ((j).toNat) ret53v).set ((j).toNat) ret83v) h
                  · have h := h
                    refine adop_stepp [0, 1, 7, 8, 9, 10, 11, 64, 65, 66, 69, 81] [22, 33, 81] (ob := True) (st' := (⟨90, [(0, [], .v (.c (.p (.sl (.int .u8)) u))), (1, [], .v (.c (.p (.sl (.int .u8)) v))), (7, [], .v (.c (.fn 45 []))), (8, [], .v (.c (.own 22))), (9, [], .v (.c (.p (.int .i64) i))), (10, [], .v (.c (.own 33))), (11, [], .v (.c (.p (.int .i64) j))), (64, [], .v (.c (.own 33))), (65, [], .v (.c (.p (.int .i64) j))), (66, [], .v (.c (.fn 45 []))), (69, [], .v (.c (.el 33 ((j).toNat) 1))), (81, [], .v (.c (.own 81)))], [(22, [], .arr 22 (.sl (.int .u8)) below), (33, [], .arr 22 (.sl (.int .u8)) (row.set ((j).toNat) ret53v)), (81, [], .arr 22 (.sl (.int .u8)) [[(u.getD (i).toNat (0 : Int))], (below.getD (((j + (1 : Int))).toNat) ([] : (List Int)))])]⟩ : St)) rfl (by kernel_rfl) trivial ?_
                    refine awd_two (i := 6) (j := 18) (by kernel_rfl) ?_ ?_
                    · have h := h
                      refine adop_stepp [0, 1, 7, 8, 9, 10, 11, 64, 65, 66, 70, 81] [22, 33, 81] (ob := True) (st' := (⟨90, [(0, [], .v (.c (.p (.sl (.int .u8)) u))), (1, [], .v (.c (.p (.sl (.int .u8)) v))), (7, [], .v (.c (.fn 45 []))), (8, [], .v (.c (.own 22))), (9, [], .v (.c (.p (.int .i64) i))), (10, [], .v (.c (.own 33))), (11, [], .v (.c (.p (.int .i64) j))), (64, [], .v (.c (.own 33))), (65, [], .v (.c (.p (.int .i64) j))), (66, [], .v (.c (.fn 45 []))), (70, [], .v (.c (.p (.sl (.int .u8)) ((row.set ((j).toNat) ret53v).getD ((j).toNat) ([] : (List Int)))))), (81, [], .v (.c (.own 81)))], [(22, [], .arr 22 (.sl (.int .u8)) below), (33, [], .arr 22 (.sl (.int .u8)) (row.set ((j).toNat) ret53v)), (81, [], .arr 22 (.sl (.int .u8)) [[(u.getD (i).toNat (0 : Int))], (below.getD (((j + (1 : Int))).toNat) ([] : (List Int)))])]⟩ : St)) rfl (by kernel_rfl) trivial ?_
                      refine awd_one (i := 18) (by kernel_rfl) ?_
                      refine adop_callOk (e := 5) (t := (.int .u8)) (l := [toV1 (.sl (.sl (.int .u8))) [[(u.getD (i).toNat (0 : Int))], (below.getD (((j + (1 : Int))).toNat) ([] : (List Int)))]]) (cl := []) true [.d (.sl (.sl (.int .u8)))] [0, 1, 7, 8, 9, 10, 11, 64, 65, 66, 70, 82] [22, 33, 82] (fun (ret82v : (List Int)) => VC45 ((row.set ((j).toNat) ret53v).getD ((j).toNat) ([] : (List Int))) ret82v (fun (ret83v : (List Int)) => (inIdx j (row.set ((j).toNat) ret53v).length ∧ VC34_k3 j X2 ((row.set ((j).toNat) ret53v).set ((j).toNat) ret83v)))) (fun ret82v => (⟨90, [(0, [], .v (.c (.p (.sl (.int .u8)) u))), (1, [], .v (.c (.p (.sl (.int .u8)) v))), (7, [], .v (.c (.fn 45 []))), (8, [], .v (.c (.own 22))), (9, [], .v (.c (.p (.int .i64) i))), (10, [], .v (.c (.own 33))), (11, [], .v (.c (.p (.int .i64) j))), (64, [], .v (.c (.own 33))), (65, [], .v (.c (.p (.int .i64) j))), (66, [], .v (.c (.fn 45 []))), (70, [], .v (.c (.p (.sl (.int .u8)) ((row.set ((j).toNat) ret53v).getD ((j).toNat) ([] : (List Int)))))), (82, [], .v (.c (.own 82)))], [(22, [], .arr 22 (.sl (.int .u8)) below), (33, [], .arr 22 (.sl (.int .u8)) (row.set ((j).toNat) ret53v)), (82, [], .arr 5 (.int .u8) ret82v)]⟩ : St)) rfl rfl rfl (by kernel_rfl) rfl (by kernel_rfl) Try.call44 (by kernel_rfl) (fun _ => rfl) (fun ret82v => by kernel_rfl) (link44 [[(u.getD (i).toNat (0 : Int))], (below.getD (((j + (1 : Int))).toNat) ([] : (List Int)))] _ h) (fun ret82v h => ?_)
                      have h : VC45 ((row.set ((j).toNat) ret53v).getD ((j).toNat) ([] : (List Int))) ret82v (fun (ret83v : (List Int)) => (inIdx j (row.set ((j).toNat) ret53v).length ∧ VC34_k3 j X2 ((row.set ((j).toNat) ret53v).set ((j).toNat) ret83v))) := h
                      refine awd_conv [.freeze 82] (st' := (⟨90, [(0, [], .v (.c (.p (.sl (.int .u8)) u))), (1, [], .v (.c (.p (.sl (.int .u8)) v))), (7, [], .v (.c (.fn 45 []))), (8, [], .v (.c (.own 22))), (9, [], .v (.c (.p (.int .i64) i))), (10, [], .v (.c (.own 33))), (11, [], .v (.c (.p (.int .i64) j))), (64, [], .v (.c (.own 33))), (65, [], .v (.c (.p (.int .i64) j))), (66, [], .v (.c (.fn 45 []))), (70, [], .v (.c (.p (.sl (.int .u8)) ((row.set ((j).toNat) ret53v).getD ((j).toNat) ([] : (List Int)))))), (82, [], .v (.c (.p (.sl (.int .u8)) ret82v)))], [(22, [], .arr 22 (.sl (.int .u8)) below), (33, [], .arr 22 (.sl (.int .u8)) (row.set ((j).toNat) ret53v))]⟩ : St)) (by kernel_rfl) rfl ?_
                      refine awd_one (i := 19) (by kernel_rfl) ?_
                      refine adop_callk (p := []) (l := [toV1 (.sl (.int .u8)) ((row.set ((j).toNat) ret53v).getD ((j).toNat) ([] : (List Int))), toV1 (.sl (.int .u8)) ret82v]) (cl := []) false [.d (.sl (.int .u8)), .d (.sl (.int .u8))] [0, 1, 7, 8, 9, 10, 11, 64, 65, 83] [22, 33] (fun (ret83v : (List Int)) => (inIdx j (row.set ((j).toNat) ret53v).length ∧ VC34_k3 j X2 ((row.set ((j).toNat) ret53v).set ((j).toNat) ret83v))) (fun ret83v => [toV1 (.sl (.int .u8)) ret83v]) (fun ret83v => (⟨90, [(0, [], .v (.c (.p (.sl (.int .u8)) u))), (1, [], .v (.c (.p (.sl (.int .u8)) v))), (7, [], .v (.c (.fn 45 []))), (8, [], .v (.c (.own 22))), (9, [], .v (.c (.p (.int .i64) i))), (10, [], .v (.c (.own 33))), (11, [], .v (.c (.p (.int .i64) j))), (64, [], .v (.c (.own 33))), (65, [], .v (.c (.p (.int .i64) j))), (83, [], .v (.c (.p (.sl (.int .u8)) ret83v)))], [(22, [], .arr 22 (.sl (.int .u8)) below), (33, [], .arr 22 (.sl (.int .u8)) (row.set ((j).toNat) ret53v))]⟩ : St)) rfl (by kernel_rfl) rfl (by kernel_rfl) rfl (by kernel_rfl) Try.call45 (by kernel_rfl) (fun ret83v => by kernel_rfl) (fun e => by cases e) (fun hg => link45 ((row.set ((j).toNat) ret53v).getD ((j).toNat) ([] : (List Int))) ret82v _ h) (fun hg => noF hg) (fun ret83v h => ?_)
                      have h : (inIdx j (row.set ((j).toNat) ret53v).length ∧ VC34_k3 j X2 ((row.set ((j).toNat) ret53v).set ((j).toNat) ret83v)) := h
                      obtain ⟨o1, h⟩ := h
                      refine awd_runp (by kernel_rfl) [20] [0, 1, 7, 8, 9, 10, 11, 83, 84] [22, 33] (ob := (inIdx j (row.set ((j).toNat) ret53v).length ∧ True)) (done' := [20, 19, 18, 6, 17, 11, 16, 15, 14, 13, 12, 10, 9, 8, 7, 5, 4, 3, 2, 1, 0]) (st' := (⟨90, [(0, [], .v (.c (.p (.sl (.int .u8)) u))), (1, [], .v (.c (.p (.sl (.int .u8)) v))), (7, [], .v (.c (.fn 45 []))), (8, [], .v (.c (.own 22))), (9, [], .v (.c (.p (.int .i64) i))), (10, [], .v (.c (.own 33))), (11, [], .v (.c (.p (.int .i64) j))), (83, [], .v (.c (.p (.sl (.int .u8)) ret83v))), (84, [], .v (.c (.el 33 ((j).toNat) 1)))], [(22, [], .arr 22 (.sl (.int .u8)) below), (33, [], .arr 22 (.sl (.int .u8)) (row.set ((j).toNat) ret53v))]⟩ : St)) (by kernel_rfl) ⟨o1, trivial⟩ ?_
                      refine awd_one (i := 21) (by kernel_rfl) ?_
                      refine adop_stepp [0, 1, 7, 8, 9, 10, 11] [22, 33] (ob := True) (st' := (⟨90, [(0, [], .v (.c (.p (.sl (.int .u8)) u))), (1, [], .v (.c (.p (.sl (.int .u8)) v))), (7, [], .v (.c (.fn 45 []))), (8, [], .v (.c (.own 22))), (9, [], .v (.c (.p (.int .i64) i))), (10, [], .v (.c (.own 33))), (11, [], .v (.c (.p (.int .i64) j)))], [(22, [], .arr 22 (.sl (.int .u8)) below), (33, [], .arr 22 (.sl (.int .u8)) ((row.set ((j).toNat) ret53v).set ((j).toNat) ret83v))]⟩ : St)) rfl (by kernel_rfl) trivial ?_
                      refine awd_done (by kernel_rfl) ?_
                      exact rest3 ((row.set ((j).toNat) ret53v).set ((j).toNat) ret83v) h
                    · have h := h
                      refine adop_callOk (e := 5) (t := (.int .u8)) (l := [toV1 (.sl (.sl (.int .u8))) [[(u.getD (i).toNat (0 : Int))], (below.getD (((j + (1 : Int))).toNat) ([] : (List Int)))]]) (cl := []) true [.d (.sl (.sl (.int .u8)))] [0, 1, 7, 8, 9, 10, 11, 64, 65, 66, 69, 82] [22, 33, 82] (fun (ret82v : (List Int)) => VC45 ((row.set ((j).toNat) ret53v).getD ((j).toNat) ([] : (List Int))) ret82v (fun (ret83v : (List Int)) => (inIdx j (row.set ((j).toNat) ret53v).length ∧ VC34_k3 j X2 ((row.set ((j).toNat) ret53v).set ((j).toNat) ret83v)))) (fun ret82v => (⟨90, [(0, [], .v (.c (.p (.sl (.int .u8)) u))), (1, [], .v (.c (.p (.sl (.int .u8)) v))), (7, [], .v (.c (.fn 45 []))), (8, [], .v (.c (.own 22))), (9, [], .v (.c (.p (.int .i64) i))), (10, [], .v (.c (.own 33))), (11, [], .v (.c (.p (.int .i64) j))), (64, [], .v (.c (.own 33))), (65, [], .v (.c (.p (.int .i64) j))), (66, [], .v (.c (.fn 45 []))), (69, [], .v (.c (.el 33 ((j).toNat) 1))), (82, [], .v (.c (.own 82)))], [(22, [], .arr 22 (.sl (.int .u8)) below), (33, [], .arr 22 (.sl (.int .u8)) (row.set ((j).toNat) ret53v)), (82, [], .arr 5 (.int .u8) ret82v)]⟩ : St)) rfl rfl rfl (by kernel_rfl) rfl (by kernel_rfl) Try.call44 (by kernel_rfl) (fun _ => rfl) (fun ret82v => by kernel_rfl) (link44 [[(u.getD (i).toNat (0 : Int))], (below.getD (((j + (1 : Int))).toNat) ([] : (List Int)))] _ h) (fun ret82v h => ?_)
                      have h : VC45 ((row.set ((j).toNat) ret53v).getD ((j).toNat) ([] : (List Int))) ret82v (fun (ret83v : (List Int)) => (inIdx j (row.set ((j).toNat) ret53v).length ∧ VC34_k3 j X2 ((row.set ((j).toNat) ret53v).set ((j).toNat) ret83v))) := h
                      refine awd_one (i := 6) (by kernel_rfl) ?_
                      refine adop_stepp [0, 1, 7, 8, 9, 10, 11, 64, 65, 66, 70, 82] [22, 33, 82] (ob := True) (st' := (⟨90, [(0, [], .v (.c (.p (.sl (.int .u8)) u))), (1, [], .v (.c (.p (.sl (.int .u8)) v))), (7, [], .v (.c (.fn 45 []))), (8, [], .v (.c (.own 22))), (9, [], .v (.c (.p (.int .i64) i))), (10, [], .v (.c (.own 33))), (11, [], .v (.c (.p (.int .i64) j))), (64, [], .v (.c (.own 33))), (65, [], .v (.c (.p (.int .i64) j))), (66, [], .v (.c (.fn 45 []))), (70, [], .v (.c (.p (.sl (.int .u8)) ((row.set ((j).toNat) ret53v).getD ((j).toNat) ([] : (List Int)))))), (82, [], .v (.c (.own 82)))], [(22, [], .arr 22 (.sl (.int .u8)) below), (33, [], .arr 22 (.sl (.int .u8)) (row.set ((j).toNat) ret53v)), (82, [], .arr 5 (.int .u8) ret82v)]⟩ : St)) rfl (by kernel_rfl) trivial ?_
                      refine awd_conv [.freeze 82] (st' := (⟨90, [(0, [], .v (.c (.p (.sl (.int .u8)) u))), (1, [], .v (.c (.p (.sl (.int .u8)) v))), (7, [], .v (.c (.fn 45 []))), (8, [], .v (.c (.own 22))), (9, [], .v (.c (.p (.int .i64) i))), (10, [], .v (.c (.own 33))), (11, [], .v (.c (.p (.int .i64) j))), (64, [], .v (.c (.own 33))), (65, [], .v (.c (.p (.int .i64) j))), (66, [], .v (.c (.fn 45 []))), (70, [], .v (.c (.p (.sl (.int .u8)) ((row.set ((j).toNat) ret53v).getD ((j).toNat) ([] : (List Int)))))), (82, [], .v (.c (.p (.sl (.int .u8)) ret82v)))], [(22, [], .arr 22 (.sl (.int .u8)) below), (33, [], .arr 22 (.sl (.int .u8)) (row.set ((j).toNat) ret53v))]⟩ : St)) (by kernel_rfl) rfl ?_
                      refine awd_one (i := 19) (by kernel_rfl) ?_
                      refine adop_callk (p := []) (l := [toV1 (.sl (.int .u8)) ((row.set ((j).toNat) ret53v).getD ((j).toNat) ([] : (List Int))), toV1 (.sl (.int .u8)) ret82v]) (cl := []) false [.d (.sl (.int .u8)), .d (.sl (.int .u8))] [0, 1, 7, 8, 9, 10, 11, 64, 65, 83] [22, 33] (fun (ret83v : (List Int)) => (inIdx j (row.set ((j).toNat) ret53v).length ∧ VC34_k3 j X2 ((row.set ((j).toNat) ret53v).set ((j).toNat) ret83v))) (fun ret83v => [toV1 (.sl (.int .u8)) ret83v]) (fun ret83v => (⟨90, [(0, [], .v (.c (.p (.sl (.int .u8)) u))), (1, [], .v (.c (.p (.sl (.int .u8)) v))), (7, [], .v (.c (.fn 45 []))), (8, [], .v (.c (.own 22))), (9, [], .v (.c (.p (.int .i64) i))), (10, [], .v (.c (.own 33))), (11, [], .v (.c (.p (.int .i64) j))), (64, [], .v (.c (.own 33))), (65, [], .v (.c (.p (.int .i64) j))), (83, [], .v (.c (.p (.sl (.int .u8)) ret83v)))], [(22, [], .arr 22 (.sl (.int .u8)) below), (33, [], .arr 22 (.sl (.int .u8)) (row.set ((j).toNat) ret53v))]⟩ : St)) rfl (by kernel_rfl) rfl (by kernel_rfl) rfl (by kernel_rfl) Try.call45 (by kernel_rfl) (fun ret83v => by kernel_rfl) (fun e => by cases e) (fun hg => link45 ((row.set ((j).toNat) ret53v).getD ((j).toNat) ([] : (List Int))) ret82v _ h) (fun hg => noF hg) (fun ret83v h => ?_)
                      have h : (inIdx j (row.set ((j).toNat) ret53v).length ∧ VC34_k3 j X2 ((row.set ((j).toNat) ret53v).set ((j).toNat) ret83v)) := h
                      obtain ⟨o1, h⟩ := h
                      refine awd_runp (by kernel_rfl) [20] [0, 1, 7, 8, 9, 10, 11, 83, 84] [22, 33] (ob := (inIdx j (row.set ((j).toNat) ret53v).length ∧ True)) (done' := [20, 19, 6, 18, 17, 11, 16, 15, 14, 13, 12, 10, 9, 8, 7, 5, 4, 3, 2, 1, 0]) (st' := (⟨90, [(0, [], .v (.c (.p (.sl (.int .u8)) u))), (1, [], .v (.c (.p (.sl (.int .u8)) v))), (7, [], .v (.c (.fn 45 []))), (8, [], .v (.c (.own 22))), (9, [], .v (.c (.p (.int .i64) i))), (10, [], .v (.c (.own 33))), (11, [], .v (.c (.p (.int .i64) j))), (83, [], .v (.c (.p (.sl (.int .u8)) ret83v))), (84, [], .v (.c (.el 33 ((j).toNat) 1)))], [(22, [], .arr 22 (.sl (.int .u8)) below), (33, [], .arr 22 (.sl (.int .u8)) (row.set ((j).toNat) ret53v))]⟩ : St)) (by kernel_rfl) ⟨o1, trivial⟩ ?_
                      refine awd_one (i := 21) (by kernel_rfl) ?_
                      refine adop_stepp [0, 1, 7, 8, 9, 10, 11] [22, 33] (ob := True) (st' := (⟨90, [(0, [], .v (.c (.p (.sl (.int .u8)) u))), (1, [], .v (.c (.p (.sl (.int .u8)) v))), (7, [], .v (.c (.fn 45 []))), (8, [], .v (.c (.own 22))), (9, [], .v (.c (.p (.int .i64) i))), (10, [], .v (.c (.own 33))), (11, [], .v (.c (.p (.int .i64) j)))], [(22, [], .arr 22 (.sl (.int .u8)) below), (33, [], .arr 22 (.sl (.int .u8)) ((row.set ((j).toNat) ret53v).set ((j).toNat) ret83v))]⟩ : St)) rfl (by kernel_rfl) trivial ?_
                      refine awd_done (by kernel_rfl) ?_
                      exact rest3 ((row.set ((j).toNat) ret53v).set ((j).toNat) ret83v) h
              · have h := h.2 hb
                refine aw_conv [.prune [0, 1, 7, 8, 9, 10, 11] [22, 33]] (st' := (⟨90, [(0, [], .v (.c (.p (.sl (.int .u8)) u))), (1, [], .v (.c (.p (.sl (.int .u8)) v))), (7, [], .v (.c (.fn 45 []))), (8, [], .v (.c (.own 22))), (9, [], .v (.c (.p (.int .i64) i))), (10, [], .v (.c (.own 33))), (11, [], .v (.c (.p (.int .i64) j)))], [(22, [], .arr 22 (.sl (.int .u8)) below), (33, [], .arr 22 (.sl (.int .u8)) (row.set ((j).toNat) ret53v))]⟩ : St)) (by kernel_rfl) ?_
                refine aw_skip ?_
                exact rest3 (row.set ((j).toNat) ret53v) h
          · have h := h.2 hb
            refine aw_conv [.prune [0, 1, 7, 9, 10] [33]] (st' := (⟨90, [(0, [], .v (.c (.p (.sl (.int .u8)) u))), (1, [], .v (.c (.p (.sl (.int .u8)) v))), (7, [], .v (.c (.fn 45 []))), (9, [], .v (.c (.p (.int .i64) i))), (10, [], .v (.c (.own 33)))], [(33, [], .arr 22 (.sl (.int .u8)) row)]⟩ : St)) (by kernel_rfl) ?_
            refine aw_exit ?_
            refine thenQ_x ?_
            refine thenQ_x ?_
            refine blockQ_hit ?_
            exact rest2 row h
      · have h := h.2 hb
        refine aw_conv [.prune [8] [22]] (st' := (⟨90, [(8, [], .v (.c (.own 22)))], [(22, [], .arr 22 (.sl (.int .u8)) below)]⟩ : St)) (by kernel_rfl) ?_
        refine aw_exit ?_
        refine thenQ_x ?_
        refine thenQ_x ?_
        refine blockQ_hit ?_
        exact rest1 below h

-- coppicer/edit.Inside
def VC35_k1 (u : (List Int)) (K : Bool × Int → Prop) (i : Int) : Prop :=
  K ((decide (i = (u.length : Int))), (0 : Int))

def VC35_k2 (v19 : Int) (X1 : Int × Int → Prop) (i2 : Int) : Prop :=
  (InR (v19 + (1 : Int)) ∧ X1 (i2, (v19 + (1 : Int))))

def VC35_l1 (u : (List Int)) (v : (List Int)) (K : Bool × Int → Prop) (i : Int) (v19 : Int) (X1 : Int × Int → Prop) : Prop :=
  (((decide (v19 < (v.length : Int))) = true → (inIdx v19 v.length ∧ (((decide (i < (u.length : Int))) = true → inIdx i u.length) ∧ ((((decide (i < (u.length : Int))) && (decide ((u.getD (i).toNat (0 : Int)) = (v.getD (v19).toNat (0 : Int))))) = true → (InR (i + (1 : Int)) ∧ VC35_k2 v19 X1 (i + (1 : Int)))) ∧ (((decide (i < (u.length : Int))) && (decide ((u.getD (i).toNat (0 : Int)) = (v.getD (v19).toNat (0 : Int))))) = false → VC35_k2 v19 X1 i))))) ∧ ((decide (v19 < (v.length : Int))) = false → VC35_k1 u K i))

def VC35 (u : (List Int)) (v : (List Int)) (K : Bool × Int → Prop) : Prop :=
  VC38 [u, v] (fun (ret13v : Int) => (((!decide (ret13v = (0 : Int))) = true → K (false, ret13v)) ∧ ((!decide (ret13v = (0 : Int))) = false → Loop (σ := Int × Int) (fun s X => VC35_l1 u v K s.1 s.2 X) ((0 : Int), (0 : Int)))))

set_option maxHeartbeats 4000000 in
theorem link35 (u : (List Int)) (v : (List Int)) (K : Bool × Int → Prop) (h : VC35 u v K) : ACalls Try.prog 35 [toV1 (.sl (.int .u8)) u, toV1 (.sl (.int .u8)) v] (fun res => ∃ y, res = (fun y => [toV1 .bool y.1, toV1 (.int .i64) y.2]) y ∧ K y) := by
  refine acalls_of_aw [.bool, (.int .i64)] [.t 4, .t 5] Try.func35 rfl rfl rfl ?_
  unfold VC35 at h
  refine aw_seq ?_
  refine aw_region ?_
  refine awl_runp 2 [0, 1] [] (ob := (True ∧ True ∧ True)) (st' := (⟨42, [(0, [], .v (.c (.p (.sl (.int .u8)) u))), (1, [], .v (.c (.p (.sl (.int .u8)) v)))], []⟩ : St)) (by kernel_rfl) ⟨trivial, trivial, trivial⟩ ?_
  refine awl_nil ?_
  refine thenQ_n ?_
  refine aw_seq ?_
  refine aw_seq ?_
  refine aw_region ?_
  refine awl_runp 3 [0, 1, 12] [12] (ob := (True ∧ True ∧ True ∧ True)) (st' := (⟨42, [(0, [], .v (.c (.p (.sl (.int .u8)) u))), (1, [], .v (.c (.p (.sl (.int .u8)) v))), (12, [], .v (.c (.own 12)))], [(12, [], .arr 22 (.sl (.int .u8)) [u, v])]⟩ : St)) (by kernel_rfl) ⟨trivial, trivial, trivial, trivial⟩ ?_
  refine awl_callk (p := []) (l := [toV1 (.sl (.sl (.int .u8))) [u, v]]) (cl := []) true [.d (.sl (.sl (.int .u8)))] [0, 1, 13] [] (fun (ret13v : Int) => (((!decide (ret13v = (0 : Int))) = true → K (false, ret13v)) ∧ ((!decide (ret13v = (0 : Int))) = false → Loop (σ := Int × Int) (fun s X => VC35_l1 u v K s.1 s.2 X) ((0 : Int), (0 : Int))))) (fun ret13v => [toV1 (.int .i64) ret13v]) (fun ret13v => (⟨42, [(0, [], .v (.c (.p (.sl (.int .u8)) u))), (1, [], .v (.c (.p (.sl (.int .u8)) v))), (13, [], .v (.c (.p (.int .i64) ret13v)))], []⟩ : St)) (by kernel_rfl) rfl (by kernel_rfl) rfl (by kernel_rfl) Try.call38 (by kernel_rfl) (fun ret13v => by kernel_rfl) (fun _ _ => rfl) (fun hg => link38 [u, v] _ h) (fun hg => noF hg) (fun ret13v h => ?_)
  have h : (((!decide (ret13v = (0 : Int))) = true → K (false, ret13v)) ∧ ((!decide (ret13v = (0 : Int))) = false → Loop (σ := Int × Int) (fun s X => VC35_l1 u v K s.1 s.2 X) ((0 : Int), (0 : Int)))) := h
  refine awl_runp 1 [0, 1, 6] [] (ob := (True ∧ True)) (st' := (⟨42, [(0, [], .v (.c (.p (.sl (.int .u8)) u))), (1, [], .v (.c (.p (.sl (.int .u8)) v))), (6, [], .v (.c (.p (.int .i64) ret13v)))], []⟩ : St)) (by kernel_rfl) ⟨trivial, trivial⟩ ?_
  refine awl_nil ?_
  refine thenQ_n ?_
  refine aw_seq ?_
  refine aw_region ?_
  refine awl_runp 2 [0, 1, 6, 15] [] (ob := (True ∧ True ∧ True)) (st' := (⟨42, [(0, [], .v (.c (.p (.sl (.int .u8)) u))), (1, [], .v (.c (.p (.sl (.int .u8)) v))), (6, [], .v (.c (.p (.int .i64) ret13v))), (15, [], .v (.c (.p .bool (!decide (ret13v = (0 : Int))))))], []⟩ : St)) (by kernel_rfl) ⟨trivial, trivial, trivial⟩ ?_
  refine awl_nil ?_
  refine thenQ_n ?_
  refine aw_cond (b := (!decide (ret13v = (0 : Int)))) (by kernel_rfl) (fun hb => ?_) (fun hb => ?_)
  · have h := h.1 hb
    refine aw_seq ?_
    refine aw_region ?_
    refine awl_runp 3 [4, 5] [] (ob := (True ∧ True ∧ True ∧ True)) (st' := (⟨42, [(4, [], .v (.c (.p .bool false))), (5, [], .v (.c (.p (.int .i64) ret13v)))], []⟩ : St)) (by kernel_rfl) ⟨trivial, trivial, trivial, trivial⟩ ?_
    refine awl_nil ?_
    refine thenQ_n ?_
    refine aw_ret ?_
    refine thenQ_r ?_
    exact retQ_r (σ := Bool × Int) (R := (fun y => [toV1 .bool y.1, toV1 (.int .i64) y.2])) (ob := (True ∧ True ∧ True)) (false, ret13v) (by kernel_rfl) ⟨trivial, trivial, trivial⟩ h
  · have h := h.2 hb
    refine aw_skip ?_
    refine thenQ_n ?_
    refine aw_seq ?_
    refine aw_region ?_
    refine awl_runp 1 [0, 1, 7] [] (ob := (True ∧ True)) (st' := (⟨42, [(0, [], .v (.c (.p (.sl (.int .u8)) u))), (1, [], .v (.c (.p (.sl (.int .u8)) v))), (7, [], .v (.c (.p (.int .i64) (0 : Int))))], []⟩ : St)) (by kernel_rfl) ⟨trivial, trivial⟩ ?_
    refine awl_nil ?_
    refine thenQ_n ?_
    refine aw_seq ?_
    refine aw_seq ?_
    refine aw_region ?_
    refine awl_runp 3 [0, 7, 17, 18, 19] [] (ob := (True ∧ True ∧ True ∧ True)) (st' := (⟨42, [(0, [], .v (.c (.p (.sl (.int .u8)) u))), (7, [], .v (.c (.p (.int .i64) (0 : Int)))), (17, [], .v (.c (.p (.sl (.int .u8)) v))), (18, [], .v (.c (.p (.int .i64) (v.length : Int)))), (19, [], .v (.c (.p (.int .i64) (0 : Int))))], []⟩ : St)) (by kernel_rfl) ⟨trivial, trivial, trivial, trivial⟩ ?_
    refine awl_nil ?_
    refine thenQ_n ?_
    refine withJoin (σ := Int) (fun s => (⟨42, [(0, [], .v (.c (.p (.sl (.int .u8)) u))), (7, [], .v (.c (.p (.int .i64) s)))], []⟩ : St)) (fun s => VC35_k1 u K s) (fun i h => ?_) (fun rest1 => ?_)
    · have h : VC35_k1 u K i := h
      unfold VC35_k1 at h
      refine thenQ_n ?_
      refine aw_seq ?_
      refine aw_region ?_
      refine awl_runp 6 [4, 5] [] (ob := (True ∧ True ∧ True ∧ True ∧ True ∧ True ∧ True)) (st' := (⟨42, [(4, [], .v (.c (.p .bool (decide (i = (u.length : Int)))))), (5, [], .v (.c (.p (.int .i64) (0 : Int))))], []⟩ : St)) (by kernel_rfl) ⟨trivial, trivial, trivial, trivial, trivial, trivial, trivial⟩ ?_
      refine awl_nil ?_
      refine thenQ_n ?_
      refine aw_ret ?_
      exact retQ_r (σ := Bool × Int) (R := (fun y => [toV1 .bool y.1, toV1 (.int .i64) y.2])) (ob := (True ∧ True ∧ True)) ((decide (i = (u.length : Int))), (0 : Int)) (by kernel_rfl) ⟨trivial, trivial, trivial⟩ h
    · refine aw_block ?_
      refine aw_loop (σ := Int × Int) (fun s => (⟨42, [(0, [], .v (.c (.p (.sl (.int .u8)) u))), (7, [], .v (.c (.p (.int .i64) s.1))), (17, [], .v (.c (.p (.sl (.int .u8)) v))), (18, [], .v (.c (.p (.int .i64) (v.length : Int)))), (19, [], .v (.c (.p (.int .i64) s.2)))], []⟩ : St)) (fun s X => VC35_l1 u v K s.1 s.2 X) (s0 := ((0 : Int), (0 : Int))) (fun s X1 h => ?_) h
      obtain ⟨i, v19⟩ := s
      have h : VC35_l1 u v K i v19 X1 := h
      unfold VC35_l1 at h
      refine aw_seq ?_
      refine aw_region ?_
      refine awl_runp 1 [0, 7, 17, 18, 19, 20] [] (ob := (True ∧ True)) (st' := (⟨42, [(0, [], .v (.c (.p (.sl (.int .u8)) u))), (7, [], .v (.c (.p (.int .i64) i))), (17, [], .v (.c (.p (.sl (.int .u8)) v))), (18, [], .v (.c (.p (.int .i64) (v.length : Int)))), (19, [], .v (.c (.p (.int .i64) v19))), (20, [], .v (.c (.p .bool (decide (v19 < (v.length : Int))))))], []⟩ : St)) (by kernel_rfl) ⟨trivial, trivial⟩ ?_
      refine awl_nil ?_
      refine thenQ_n ?_
      refine aw_seq ?_
      refine aw_cond (b := (decide (v19 < (v.length : Int)))) (by kernel_rfl) (fun hb => ?_) (fun hb => ?_)
      · have h := h.1 hb
        refine aw_skip ?_
        refine thenQ_n ?_
        refine aw_seq ?_
        refine aw_block ?_
        refine aw_seq ?_
        refine aw_region ?_
        obtain ⟨o1, h⟩ := h
        refine awl_runp 3 [0, 7, 9, 17, 18, 19] [] (ob := (inIdx v19 v.length ∧ True ∧ True ∧ True)) (st' := (⟨42, [(0, [], .v (.c (.p (.sl (.int .u8)) u))), (7, [], .v (.c (.p (.int .i64) i))), (9, [], .v (.c (.p (.int .u8) (v.getD (v19).toNat (0 : Int))))), (17, [], .v (.c (.p (.sl (.int .u8)) v))), (18, [], .v (.c (.p (.int .i64) (v.length : Int)))), (19, [], .v (.c (.p (.int .i64) v19)))], []⟩ : St)) (by kernel_rfl) ⟨o1, trivial, trivial, trivial⟩ ?_
        refine awl_nil ?_
        refine thenQ_n ?_
        refine aw_seq ?_
        refine aw_region ?_
        obtain ⟨o1, h⟩ := h
        refine awl_runp 12 [0, 7, 17, 18, 19, 34] [] (ob := (True ∧ True ∧ True ∧ True ∧ True ∧ ((decide (i < (u.length : Int))) = true → True) ∧ ((decide (i < (u.length : Int))) = true → True) ∧ ((decide (i < (u.length : Int))) = true → inIdx i u.length) ∧ ((decide (i < (u.length : Int))) = true → True) ∧ ((decide (i < (u.length : Int))) = true → True) ∧ ((decide (i < (u.length : Int))) = true → True) ∧ True ∧ True)) (st' := (⟨42, [(0, [], .v (.c (.p (.sl (.int .u8)) u))), (7, [], .v (.c (.p (.int .i64) i))), (17, [], .v (.c (.p (.sl (.int .u8)) v))), (18, [], .v (.c (.p (.int .i64) (v.length : Int)))), (19, [], .v (.c (.p (.int .i64) v19))), (34, [], .v (.c (.p .bool ((decide (i < (u.length : Int))) && (decide ((u.getD (i).toNat (0 : Int)) = (v.getD (v19).toNat (0 : Int))))))))], []⟩ : St)) (by kernel_rfl) ⟨trivial, trivial, trivial, trivial, trivial, (fun _ => trivial), (fun _ => trivial), o1, (fun _ => trivial), (fun _ => trivial), (fun _ => trivial), trivial, trivial⟩ ?_
        refine awl_nil ?_
        refine thenQ_n ?_
        refine withJoin (σ := Int) (fun s => (⟨42, [(0, [], .v (.c (.p (.sl (.int .u8)) u))), (7, [], .v (.c (.p (.int .i64) s))), (17, [], .v (.c (.p (.sl (.int .u8)) v))), (18, [], .v (.c (.p (.int .i64) (v.length : Int)))), (19, [], .v (.c (.p (.int .i64) v19)))], []⟩ : St)) (fun s => VC35_k2 v19 X1 s) (fun i2 h => ?_) (fun rest2 => ?_)
        · have h : VC35_k2 v19 X1 i2 := h
          unfold VC35_k2 at h
          refine blockQ_n ?_
          refine thenQ_n ?_
          refine aw_region ?_
          obtain ⟨o1, h⟩ := h
          refine awl_runp 2 [0, 7, 17, 18, 19] [] (ob := (InR (v19 + (1 : Int)) ∧ True ∧ True)) (st' := (⟨42, [(0, [], .v (.c (.p (.sl (.int .u8)) u))), (7, [], .v (.c (.p (.int .i64) i2))), (17, [], .v (.c (.p (.sl (.int .u8)) v))), (18, [], .v (.c (.p (.int .i64) (v.length : Int)))), (19, [], .v (.c (.p (.int .i64) (v19 + (1 : Int)))))], []⟩ : St)) (by kernel_rfl) ⟨o1, trivial, trivial⟩ ?_
          refine awl_nil ?_
          exact thenQ_n ⟨(i2, (v19 + (1 : Int))), rfl, h⟩
        · refine aw_cond (b := ((decide (i < (u.length : Int))) && (decide ((u.getD (i).toNat (0 : Int)) = (v.getD (v19).toNat (0 : Int)))))) (by kernel_rfl) (fun hb => ?_) (fun hb => ?_)
          · have h := h.1 hb
            refine aw_region ?_
            obtain ⟨o1, h⟩ := h
            refine awl_runp 3 [0, 7, 17, 18, 19] [] (ob := (True ∧ InR (i + (1 : Int)) ∧ True ∧ True)) (st' := (⟨42, [(0, [], .v (.c (.p (.sl (.int .u8)) u))), (7, [], .v (.c (.p (.int .i64) (i + (1 : Int))))), (17, [], .v (.c (.p (.sl (.int .u8)) v))), (18, [], .v (.c (.p (.int .i64) (v.length : Int)))), (19, [], .v (.c (.p (.int .i64) v19)))], []⟩ : St)) (by kernel_rfl) ⟨trivial, o1, trivial, trivial⟩ ?_
            refine awl_nil ?_
            exact rest2 (i + (1 : Int)) h
          · have h := h.2 hb
            refine aw_conv [.prune [0, 7, 17, 18, 19] []] (st' := (⟨42, [(0, [], .v (.c (.p (.sl (.int .u8)) u))), (7, [], .v (.c (.p (.int .i64) i))), (17, [], .v (.c (.p (.sl (.int .u8)) v))), (18, [], .v (.c (.p (.int .i64) (v.length : Int)))), (19, [], .v (.c (.p (.int .i64) v19)))], []⟩ : St)) (by kernel_rfl) ?_
            refine aw_skip ?_
            exact rest2 i h
      · have h := h.2 hb
        refine aw_conv [.prune [0, 7] []] (st' := (⟨42, [(0, [], .v (.c (.p (.sl (.int .u8)) u))), (7, [], .v (.c (.p (.int .i64) i)))], []⟩ : St)) (by kernel_rfl) ?_
        refine aw_exit ?_
        refine thenQ_x ?_
        refine thenQ_x ?_
        refine blockQ_hit ?_
        exact rest1 i h

-- coppicer/edit.Far
def VC20_k2 (v : (List Int)) (K : Int × Int → Prop) (row2 : (List Int)) : Prop :=
  (inIdx (v.length : Int) row2.length ∧ K ((row2.getD (((v.length : Int)).toNat) (0 : Int)), (0 : Int)))

def VC20_k3 (v38 : Int) (X1 : Int × (List Int) → Prop) (row3 : (List Int)) : Prop :=
  (InR (v38 + (1 : Int)) ∧ X1 ((v38 + (1 : Int)), row3))

def VC20_k4 (v52 : Int) (row3 : (List Int)) (X2 : Int × Int × (List Int) → Prop) (best : Int) : Prop :=
  (InR (v52 + (1 : Int)) ∧ inIdx (v52 + (1 : Int)) row3.length ∧ (InR (v52 + (1 : Int)) ∧ inIdx (v52 + (1 : Int)) row3.length ∧ (InR (v52 + (1 : Int)) ∧ X2 ((row3.getD (((v52 + (1 : Int))).toNat) (0 : Int)), (v52 + (1 : Int)), (row3.set (((v52 + (1 : Int))).toNat) best)))))

def VC20_l2 (u : (List Int)) (v : (List Int)) (v38 : Int) (X1 : Int × (List Int) → Prop) (last : Int) (v52 : Int) (row3 : (List Int)) (X2 : Int × Int × (List Int) → Prop) : Prop :=
  (((decide (v52 < (v.length : Int))) = true → (inIdx v52 v.length ∧ (inIdx v52 row3.length ∧ InR (v52 + (1 : Int)) ∧ inIdx (v52 + (1 : Int)) row3.length ∧ InR ((imin (row3.getD ((v52).toNat) (0 : Int)) (row3.getD (((v52 + (1 : Int))).toNat) (0 : Int))) + (1 : Int)) ∧ (((decide ((u.getD (v38).toNat (0 : Int)) = (v.getD (v52).toNat (0 : Int)))) = true → VC20_k4 v52 row3 X2 (imin ((imin (row3.getD ((v52).toNat) (0 : Int)) (row3.getD (((v52 + (1 : Int))).toNat) (0 : Int))) + (1 : Int)) last)) ∧ ((decide ((u.getD (v38).toNat (0 : Int)) = (v.getD (v52).toNat (0 : Int)))) = false → (InR (last + (1 : Int)) ∧ VC20_k4 v52 row3 X2 (imin ((imin (row3.getD ((v52).toNat) (0 : Int)) (row3.getD (((v52 + (1 : Int))).toNat) (0 : Int))) + (1 : Int)) (last + (1 : Int))))))))) ∧ ((decide (v52 < (v.length : Int))) = false → VC20_k3 v38 X1 row3))

def VC20_l1 (u : (List Int)) (v : (List Int)) (K : Int × Int → Prop) (v38 : Int) (row2 : (List Int)) (X1 : Int × (List Int) → Prop) : Prop :=
  (((decide (v38 < (u.length : Int))) = true → (inIdx v38 u.length ∧ (inIdx (0 : Int) row2.length ∧ (InR (v38 + (1 : Int)) ∧ inIdx (0 : Int) row2.length ∧ Loop (σ := Int × Int × (List Int)) (fun s X => VC20_l2 u v v38 X1 s.1 s.2.1 s.2.2 X) ((row2.getD (((0 : Int)).toNat) (0 : Int)), (0 : Int), (row2.set (((0 : Int)).toNat) (v38 + (1 : Int)))))))) ∧ ((decide (v38 < (u.length : Int))) = false → VC20_k2 v K row2))

def VC20_k1 (u : (List Int)) (v : (List Int)) (K : Int × Int → Prop) (row : (List Int)) : Prop :=
  Loop (σ := Int × (List Int)) (fun s X => VC20_l1 u v K s.1 s.2 X) ((0 : Int), row)

def VC20_l3 (u : (List Int)) (v : (List Int)) (K : Int × Int → Prop) (v28 : Int) (row : (List Int)) (X3 : Int × (List Int) → Prop) : Prop :=
  (((decide (v28 < ((List.replicate (((v.length : Int) + (1 : Int))).toNat (0 : Int)).length : Int))) = true → (inIdx v28 row.length ∧ (InR (v28 + (1 : Int)) ∧ X3 ((v28 + (1 : Int)), (row.set ((v28).toNat) v28))))) ∧ ((decide (v28 < ((List.replicate (((v.length : Int) + (1 : Int))).toNat (0 : Int)).length : Int))) = false → VC20_k1 u v K row))

def VC20 (u : (List Int)) (v : (List Int)) (K : Int × Int → Prop) : Prop :=
  VC38 [u, v] (fun (ret18v : Int) => (((!decide (ret18v = (0 : Int))) = true → K ((0 : Int), ret18v)) ∧ ((!decide (ret18v = (0 : Int))) = false → (InR ((v.length : Int) + (1 : Int)) ∧ room ((v.length : Int) + (1 : Int)) ∧ Loop (σ := Int × (List Int)) (fun s X => VC20_l3 u v K s.1 s.2 X) ((0 : Int), (List.replicate (((v.length : Int) + (1 : Int))).toNat (0 : Int)))))))

set_option maxHeartbeats 4000000 in
theorem link20 (u : (List Int)) (v : (List Int)) (K : Int × Int → Prop) (h : VC20 u v K) : ACalls Try.prog 20 [toV1 (.sl (.int .u8)) u, toV1 (.sl (.int .u8)) v] (fun res => ∃ y, res = (fun y => [toV1 (.int .i64) y.1, toV1 (.int .i64) y.2]) y ∧ K y) := by
  refine acalls_of_aw [(.int .i64), (.int .i64)] [.t 4, .t 5] Try.func20 rfl rfl rfl ?_
  unfold VC20 at h
  refine aw_seq ?_
  refine aw_region ?_
  refine awl_runp 2 [0, 1] [] (ob := (True ∧ True ∧ True)) (st' := (⟨95, [(0, [], .v (.c (.p (.sl (.int .u8)) u))), (1, [], .v (.c (.p (.sl (.int .u8)) v)))], []⟩ : St)) (by kernel_rfl) ⟨trivial, trivial, trivial⟩ ?_
  refine awl_nil ?_
  refine thenQ_n ?_
  refine aw_seq ?_
  refine aw_seq ?_
  refine aw_region ?_
  refine awl_runp 3 [0, 1, 17] [17] (ob := (True ∧ True ∧ True ∧ True)) (st' := (⟨95, [(0, [], .v (.c (.p (.sl (.int .u8)) u))), (1, [], .v (.c (.p (.sl (.int .u8)) v))), (17, [], .v (.c (.own 17)))], [(17, [], .arr 22 (.sl (.int .u8)) [u, v])]⟩ : St)) (by kernel_rfl) ⟨trivial, trivial, trivial, trivial⟩ ?_
  refine awl_callk (p := []) (l := [toV1 (.sl (.sl (.int .u8))) [u, v]]) (cl := []) true [.d (.sl (.sl (.int .u8)))] [0, 1, 18] [] (fun (ret18v : Int) => (((!decide (ret18v = (0 : Int))) = true → K ((0 : Int), ret18v)) ∧ ((!decide (ret18v = (0 : Int))) = false → (InR ((v.length : Int) + (1 : Int)) ∧ room ((v.length : Int) + (1 : Int)) ∧ Loop (σ := Int × (List Int)) (fun s X => VC20_l3 u v K s.1 s.2 X) ((0 : Int), (List.replicate (((v.length : Int) + (1 : Int))).toNat (0 : Int))))))) (fun ret18v => [toV1 (.int .i64) ret18v]) (fun ret18v => (⟨95, [(0, [], .v (.c (.p (.sl (.int .u8)) u))), (1, [], .v (.c (.p (.sl (.int .u8)) v))), (18, [], .v (.c (.p (.int .i64) ret18v)))], []⟩ : St)) (by kernel_rfl) rfl (by kernel_rfl) rfl (by kernel_rfl) Try.call38 (by kernel_rfl) (fun ret18v => by kernel_rfl) (fun _ _ => rfl) (fun hg => link38 [u, v] _ h) (fun hg => noF hg) (fun ret18v h => ?_)
  have h : (((!decide (ret18v = (0 : Int))) = true → K ((0 : Int), ret18v)) ∧ ((!decide (ret18v = (0 : Int))) = false → (InR ((v.length : Int) + (1 : Int)) ∧ room ((v.length : Int) + (1 : Int)) ∧ Loop (σ := Int × (List Int)) (fun s X => VC20_l3 u v K s.1 s.2 X) ((0 : Int), (List.replicate (((v.length : Int) + (1 : Int))).toNat (0 : Int)))))) := h
  refine awl_runp 1 [0, 1, 6] [] (ob := (True ∧ True)) (st' := (⟨95, [(0, [], .v (.c (.p (.sl (.int .u8)) u))), (1, [], .v (.c (.p (.sl (.int .u8)) v))), (6, [], .v (.c (.p (.int .i64) ret18v)))], []⟩ : St)) (by kernel_rfl) ⟨trivial, trivial⟩ ?_
  refine awl_nil ?_
  refine thenQ_n ?_
  refine aw_seq ?_
  refine aw_region ?_
  refine awl_runp 2 [0, 1, 6, 20] [] (ob := (True ∧ True ∧ True)) (st' := (⟨95, [(0, [], .v (.c (.p (.sl (.int .u8)) u))), (1, [], .v (.c (.p (.sl (.int .u8)) v))), (6, [], .v (.c (.p (.int .i64) ret18v))), (20, [], .v (.c (.p .bool (!decide (ret18v = (0 : Int))))))], []⟩ : St)) (by kernel_rfl) ⟨trivial, trivial, trivial⟩ ?_
  refine awl_nil ?_
  refine thenQ_n ?_
  refine aw_cond (b := (!decide (ret18v = (0 : Int)))) (by kernel_rfl) (fun hb => ?_) (fun hb => ?_)
  · have h := h.1 hb
    refine aw_seq ?_
    refine aw_region ?_
    refine awl_runp 3 [4, 5] [] (ob := (True ∧ True ∧ True ∧ True)) (st' := (⟨95, [(4, [], .v (.c (.p (.int .i64) (0 : Int)))), (5, [], .v (.c (.p (.int .i64) ret18v)))], []⟩ : St)) (by kernel_rfl) ⟨trivial, trivial, trivial, trivial⟩ ?_
    refine awl_nil ?_
    refine thenQ_n ?_
    refine aw_ret ?_
    refine thenQ_r ?_
    exact retQ_r (σ := Int × Int) (R := (fun y => [toV1 (.int .i64) y.1, toV1 (.int .i64) y.2])) (ob := (True ∧ True ∧ True)) ((0 : Int), ret18v) (by kernel_rfl) ⟨trivial, trivial, trivial⟩ h
  · have h := h.2 hb
    refine aw_skip ?_
    refine thenQ_n ?_
    refine aw_seq ?_
    refine aw_region ?_
    obtain ⟨o1, o2, h⟩ := h
    refine awl_runp 5 [0, 1, 7] [25] (ob := (True ∧ True ∧ InR ((v.length : Int) + (1 : Int)) ∧ room ((v.length : Int) + (1 : Int)) ∧ True ∧ True)) (st' := (⟨95, [(0, [], .v (.c (.p (.sl (.int .u8)) u))), (1, [], .v (.c (.p (.sl (.int .u8)) v))), (7, [], .v (.c (.own 25)))], [(25, [], .arr 3 (.int .i64) (List.replicate (((v.length : Int) + (1 : Int))).toNat (0 : Int)))]⟩ : St)) (by kernel_rfl) ⟨trivial, trivial, o1, o2, trivial, trivial⟩ ?_
    refine awl_nil ?_
    refine thenQ_n ?_
    refine aw_seq ?_
    refine aw_seq ?_
    refine aw_region ?_
    refine awl_runp 3 [0, 1, 7, 27, 28] [25] (ob := (True ∧ True ∧ True ∧ True)) (st' := (⟨95, [(0, [], .v (.c (.p (.sl (.int .u8)) u))), (1, [], .v (.c (.p (.sl (.int .u8)) v))), (7, [], .v (.c (.own 25))), (27, [], .v (.c (.p (.int .i64) ((List.replicate (((v.length : Int) + (1 : Int))).toNat (0 : Int)).length : Int)))), (28, [], .v (.c (.p (.int .i64) (0 : Int))))], [(25, [], .arr 3 (.int .i64) (List.replicate (((v.length : Int) + (1 : Int))).toNat (0 : Int)))]⟩ : St)) (by kernel_rfl) ⟨trivial, trivial, trivial, trivial⟩ ?_
    refine awl_nil ?_
    refine thenQ_n ?_
    refine withJoin (σ := (List Int)) (fun s => (⟨95, [(0, [], .v (.c (.p (.sl (.int .u8)) u))), (1, [], .v (.c (.p (.sl (.int .u8)) v))), (7, [], .v (.c (.own 25)))], [(25, [], .arr 3 (.int .i64) s)]⟩ : St)) (fun s => VC20_k1 u v K s) (fun row h => ?_) (fun rest4 => ?_)
    · have h : VC20_k1 u v K row := h
      unfold VC20_k1 at h
      refine thenQ_n ?_
      refine aw_seq ?_
      refine aw_seq ?_
      refine aw_region ?_
      refine awl_runp 3 [1, 7, 36, 37, 38] [25] (ob := (True ∧ True ∧ True ∧ True)) (st' := (⟨95, [(1, [], .v (.c (.p (.sl (.int .u8)) v))), (7, [], .v (.c (.own 25))), (36, [], .v (.c (.p (.sl (.int .u8)) u))), (37, [], .v (.c (.p (.int .i64) (u.length : Int)))), (38, [], .v (.c (.p (.int .i64) (0 : Int))))], [(25, [], .arr 3 (.int .i64) row)]⟩ : St)) (by kernel_rfl) ⟨trivial, trivial, trivial, trivial⟩ ?_
      refine awl_nil ?_
      refine thenQ_n ?_
      refine withJoin (σ := (List Int)) (fun s => (⟨95, [(1, [], .v (.c (.p (.sl (.int .u8)) v))), (7, [], .v (.c (.own 25)))], [(25, [], .arr 3 (.int .i64) s)]⟩ : St)) (fun s => VC20_k2 v K s) (fun row2 h => ?_) (fun rest1 => ?_)
      · have h : VC20_k2 v K row2 := h
        unfold VC20_k2 at h
        refine thenQ_n ?_
        refine aw_seq ?_
        refine aw_region ?_
        obtain ⟨o1, h⟩ := h
        refine awl_runp 7 [4, 5] [] (ob := (True ∧ True ∧ True ∧ inIdx (v.length : Int) row2.length ∧ True ∧ True ∧ True ∧ True)) (st' := (⟨95, [(4, [], .v (.c (.p (.int .i64) (row2.getD (((v.length : Int)).toNat) (0 : Int))))), (5, [], .v (.c (.p (.int .i64) (0 : Int))))], []⟩ : St)) (by kernel_rfl) ⟨trivial, trivial, trivial, o1, trivial, trivial, trivial, trivial⟩ ?_
        refine awl_nil ?_
        refine thenQ_n ?_
        refine aw_ret ?_
        exact retQ_r (σ := Int × Int) (R := (fun y => [toV1 (.int .i64) y.1, toV1 (.int .i64) y.2])) (ob := (True ∧ True ∧ True)) ((row2.getD (((v.length : Int)).toNat) (0 : Int)), (0 : Int)) (by kernel_rfl) ⟨trivial, trivial, trivial⟩ h
      · refine aw_block ?_
        refine aw_loop (σ := Int × (List Int)) (fun s => (⟨95, [(1, [], .v (.c (.p (.sl (.int .u8)) v))), (7, [], .v (.c (.own 25))), (36, [], .v (.c (.p (.sl (.int .u8)) u))), (37, [], .v (.c (.p (.int .i64) (u.length : Int)))), (38, [], .v (.c (.p (.int .i64) s.1)))], [(25, [], .arr 3 (.int .i64) s.2)]⟩ : St)) (fun s X => VC20_l1 u v K s.1 s.2 X) (s0 := ((0 : Int), row)) (fun s X1 h => ?_) h
        obtain ⟨v38, row2⟩ := s
        have h : VC20_l1 u v K v38 row2 X1 := h
        unfold VC20_l1 at h
        refine aw_seq ?_
        refine aw_region ?_
        refine awl_runp 1 [1, 7, 36, 37, 38, 39] [25] (ob := (True ∧ True)) (st' := (⟨95, [(1, [], .v (.c (.p (.sl (.int .u8)) v))), (7, [], .v (.c (.own 25))), (36, [], .v (.c (.p (.sl (.int .u8)) u))), (37, [], .v (.c (.p (.int .i64) (u.length : Int)))), (38, [], .v (.c (.p (.int .i64) v38))), (39, [], .v (.c (.p .bool (decide (v38 < (u.length : Int))))))], [(25, [], .arr 3 (.int .i64) row2)]⟩ : St)) (by kernel_rfl) ⟨trivial, trivial⟩ ?_
        refine awl_nil ?_
        refine thenQ_n ?_
        refine aw_seq ?_
        refine aw_cond (b := (decide (v38 < (u.length : Int)))) (by kernel_rfl) (fun hb => ?_) (fun hb => ?_)
        · have h := h.1 hb
          refine aw_skip ?_
          refine thenQ_n ?_
          refine aw_seq ?_
          refine aw_block ?_
          refine aw_seq ?_
          refine aw_region ?_
          obtain ⟨o1, h⟩ := h
          refine awl_runp 5 [1, 7, 9, 10, 36, 37, 38] [25] (ob := (True ∧ inIdx v38 u.length ∧ True ∧ True ∧ True ∧ True)) (st' := (⟨95, [(1, [], .v (.c (.p (.sl (.int .u8)) v))), (7, [], .v (.c (.own 25))), (9, [], .v (.c (.p (.int .i64) v38))), (10, [], .v (.c (.p (.int .u8) (u.getD (v38).toNat (0 : Int))))), (36, [], .v (.c (.p (.sl (.int .u8)) u))), (37, [], .v (.c (.p (.int .i64) (u.length : Int)))), (38, [], .v (.c (.p (.int .i64) v38)))], [(25, [], .arr 3 (.int .i64) row2)]⟩ : St)) (by kernel_rfl) ⟨trivial, o1, trivial, trivial, trivial, trivial⟩ ?_
          refine awl_nil ?_
          refine thenQ_n ?_
          refine aw_seq ?_
          refine aw_region ?_
          obtain ⟨o1, h⟩ := h
          refine awl_runp 4 [1, 7, 9, 10, 11, 36, 37, 38] [25] (ob := (True ∧ inIdx (0 : Int) row2.length ∧ True ∧ True ∧ True)) (st' := (⟨95, [(1, [], .v (.c (.p (.sl (.int .u8)) v))), (7, [], .v (.c (.own 25))), (9, [], .v (.c (.p (.int .i64) v38))), (10, [], .v (.c (.p (.int .u8) (u.getD (v38).toNat (0 : Int))))), (11, [], .v (.c (.p (.int .i64) (row2.getD (((0 : Int)).toNat) (0 : Int))))), (36, [], .v (.c (.p (.sl (.int .u8)) u))), (37, [], .v (.c (.p (.int .i64) (u.length : Int)))), (38, [], .v (.c (.p (.int .i64) v38)))], [(25, [], .arr 3 (.int .i64) row2)]⟩ : St)) (by kernel_rfl) ⟨trivial, o1, trivial, trivial, trivial⟩ ?_
          refine awl_nil ?_
          refine thenQ_n ?_
          refine aw_seq ?_
          refine aw_region ?_
          obtain ⟨o1, o2, h⟩ := h
          refine awl_runp 5 [1, 7, 10, 11, 36, 37, 38] [25] (ob := (True ∧ True ∧ InR (v38 + (1 : Int)) ∧ inIdx (0 : Int) row2.length ∧ True ∧ True)) (st' := (⟨95, [(1, [], .v (.c (.p (.sl (.int .u8)) v))), (7, [], .v (.c (.own 25))), (10, [], .v (.c (.p (.int .u8) (u.getD (v38).toNat (0 : Int))))), (11, [], .v (.c (.p (.int .i64) (row2.getD (((0 : Int)).toNat) (0 : Int))))), (36, [], .v (.c (.p (.sl (.int .u8)) u))), (37, [], .v (.c (.p (.int .i64) (u.length : Int)))), (38, [], .v (.c (.p (.int .i64) v38)))], [(25, [], .arr 3 (.int .i64) (row2.set (((0 : Int)).toNat) (v38 + (1 : Int))))]⟩ : St)) (by kernel_rfl) ⟨trivial, trivial, o1, o2, trivial, trivial⟩ ?_
          refine awl_nil ?_
          refine thenQ_n ?_
          refine aw_seq ?_
          refine aw_region ?_
          refine awl_runp 3 [1, 7, 10, 11, 36, 37, 38, 50, 51, 52] [25] (ob := (True ∧ True ∧ True ∧ True)) (st' := (⟨95, [(1, [], .v (.c (.p (.sl (.int .u8)) v))), (7, [], .v (.c (.own 25))), (10, [], .v (.c (.p (.int .u8) (u.getD (v38).toNat (0 : Int))))), (11, [], .v (.c (.p (.int .i64) (row2.getD (((0 : Int)).toNat) (0 : Int))))), (36, [], .v (.c (.p (.sl (.int .u8)) u))), (37, [], .v (.c (.p (.int .i64) (u.length : Int)))), (38, [], .v (.c (.p (.int .i64) v38))), (50, [], .v (.c (.p (.sl (.int .u8)) v))), (51, [], .v (.c (.p (.int .i64) (v.length : Int)))), (52, [], .v (.c (.p (.int .i64) (0 : Int))))], [(25, [], .arr 3 (.int .i64) (row2.set (((0 : Int)).toNat) (v38 + (1 : Int))))]⟩ : St)) (by kernel_rfl) ⟨trivial, trivial, trivial, trivial⟩ ?_
          refine awl_nil ?_
          refine thenQ_n ?_
          refine withJoin (σ := (List Int)) (fun s => (⟨95, [(1, [], .v (.c (.p (.sl (.int .u8)) v))), (7, [], .v (.c (.own 25))), (36, [], .v (.c (.p (.sl (.int .u8)) u))), (37, [], .v (.c (.p (.int .i64) (u.length : Int)))), (38, [], .v (.c (.p (.int .i64) v38)))], [(25, [], .arr 3 (.int .i64) s)]⟩ : St)) (fun s => VC20_k3 v38 X1 s) (fun row3 h => ?_) (fun rest2 => ?_)
          · have h : VC20_k3 v38 X1 row3 := h
            unfold VC20_k3 at h
            refine blockQ_n ?_
            refine thenQ_n ?_
            refine aw_region ?_
            obtain ⟨o1, h⟩ := h
            refine awl_runp 2 [1, 7, 36, 37, 38] [25] (ob := (InR (v38 + (1 : Int)) ∧ True ∧ True)) (st' := (⟨95, [(1, [], .v (.c (.p (.sl (.int .u8)) v))), (7, [], .v (.c (.own 25))), (36, [], .v (.c (.p (.sl (.int .u8)) u))), (37, [], .v (.c (.p (.int .i64) (u.length : Int)))), (38, [], .v (.c (.p (.int .i64) (v38 + (1 : Int)))))], [(25, [], .arr 3 (.int .i64) row3)]⟩ : St)) (by kernel_rfl) ⟨o1, trivial, trivial⟩ ?_
            refine awl_nil ?_
            exact thenQ_n ⟨((v38 + (1 : Int)), row3), rfl, h⟩
          · refine aw_block ?_
            refine aw_loop (σ := Int × Int × (List Int)) (fun s => (⟨95, [(1, [], .v (.c (.p (.sl (.int .u8)) v))), (7, [], .v (.c (.own 25))), (10, [], .v (.c (.p (.int .u8) (u.getD (v38).toNat (0 : Int))))), (11, [], .v (.c (.p (.int .i64) s.1))), (36, [], .v (.c (.p (.sl (.int .u8)) u))), (37, [], .v (.c (.p (.int .i64) (u.length : Int)))), (38, [], .v (.c (.p (.int .i64) v38))), (50, [], .v (.c (.p (.sl (.int .u8)) v))), (51, [], .v (.c (.p (.int .i64) (v.length : Int)))), (52, [], .v (.c (.p (.int .i64) s.2.1)))], [(25, [], .arr 3 (.int .i64) s.2.2)]⟩ : St)) (fun s X => VC20_l2 u v v38 X1 s.1 s.2.1 s.2.2 X) (s0 := ((row2.getD (((0 : Int)).toNat) (0 : Int)), (0 : Int), (row2.set (((0 : Int)).toNat) (v38 + (1 : Int))))) (fun s X2 h => ?_) h
            obtain ⟨last, v52, row3⟩ := s
            have h : VC20_l2 u v v38 X1 last v52 row3 X2 := h
            unfold VC20_l2 at h
            refine aw_seq ?_
            refine aw_region ?_
            refine awl_runp 1 [1, 7, 10, 11, 36, 37, 38, 50, 51, 52, 53] [25] (ob := (True ∧ True)) (st' := (⟨95, [(1, [], .v (.c (.p (.sl (.int .u8)) v))), (7, [], .v (.c (.own 25))), (10, [], .v (.c (.p (.int .u8) (u.getD (v38).toNat (0 : Int))))), (11, [], .v (.c (.p (.int .i64) last))), (36, [], .v (.c (.p (.sl (.int .u8)) u))), (37, [], .v (.c (.p (.int .i64) (u.length : Int)))), (38, [], .v (.c (.p (.int .i64) v38))), (50, [], .v (.c (.p (.sl (.int .u8)) v))), (51, [], .v (.c (.p (.int .i64) (v.length : Int)))), (52, [], .v (.c (.p (.int .i64) v52))), (53, [], .v (.c (.p .bool (decide (v52 < (v.length : Int))))))], [(25, [], .arr 3 (.int .i64) row3)]⟩ : St)) (by kernel_rfl) ⟨trivial, trivial⟩ ?_
            refine awl_nil ?_
            refine thenQ_n ?_
            refine aw_seq ?_
            refine aw_cond (b := (decide (v52 < (v.length : Int)))) (by kernel_rfl) (fun hb => ?_) (fun hb => ?_)
            · have h := h.1 hb
              refine aw_skip ?_
              refine thenQ_n ?_
              refine aw_seq ?_
              refine aw_block ?_
              refine aw_seq ?_
              refine aw_region ?_
              obtain ⟨o1, h⟩ := h
              refine awl_runp 5 [1, 7, 10, 11, 12, 13, 36, 37, 38, 50, 51, 52] [25] (ob := (True ∧ inIdx v52 v.length ∧ True ∧ True ∧ True ∧ True)) (st' := (⟨95, [(1, [], .v (.c (.p (.sl (.int .u8)) v))), (7, [], .v (.c (.own 25))), (10, [], .v (.c (.p (.int .u8) (u.getD (v38).toNat (0 : Int))))), (11, [], .v (.c (.p (.int .i64) last))), (12, [], .v (.c (.p (.int .i64) v52))), (13, [], .v (.c (.p (.int .u8) (v.getD (v52).toNat (0 : Int))))), (36, [], .v (.c (.p (.sl (.int .u8)) u))), (37, [], .v (.c (.p (.int .i64) (u.length : Int)))), (38, [], .v (.c (.p (.int .i64) v38))), (50, [], .v (.c (.p (.sl (.int .u8)) v))), (51, [], .v (.c (.p (.int .i64) (v.length : Int)))), (52, [], .v (.c (.p (.int .i64) v52)))], [(25, [], .arr 3 (.int .i64) row3)]⟩ : St)) (by kernel_rfl) ⟨trivial, o1, trivial, trivial, trivial, trivial⟩ ?_
              refine awl_nil ?_
              refine thenQ_n ?_
              refine aw_seq ?_
              refine awd_begin [] (by kernel_rfl) ?_
              obtain ⟨o1, o2, o3, o4, h⟩ := h
              refine awd_runp (by kernel_rfl) [0, 1, 2, 3, 4, 5, 6, 7, 8, 9, 10, 11] [1, 7, 10, 11, 12, 13, 14, 36, 37, 38, 50, 51, 52] [25] (ob := (True ∧ True ∧ inIdx v52 row3.length ∧ True ∧ True ∧ True ∧ InR (v52 + (1 : Int)) ∧ inIdx (v52 + (1 : Int)) row3.length ∧ True ∧ True ∧ InR ((imin (row3.getD ((v52).toNat) (0 : Int)) (row3.getD (((v52 + (1 : Int))).toNat) (0 : Int))) + (1 : Int)) ∧ True ∧ True)) (done' := [11, 10, 9, 8, 7, 6, 5, 4, 3, 2, 1, 0]) (st' := (⟨95, [(1, [], .v (.c (.p (.sl (.int .u8)) v))), (7, [], .v (.c (.own 25))), (10, [], .v (.c (.p (.int .u8) (u.getD (v38).toNat (0 : Int))))), (11, [], .v (.c (.p (.int .i64) last))), (12, [], .v (.c (.p (.int .i64) v52))), (13, [], .v (.c (.p (.int .u8) (v.getD (v52).toNat (0 : Int))))), (14, [], .v (.c (.p (.int .i64) ((imin (row3.getD ((v52).toNat) (0 : Int)) (row3.getD (((v52 + (1 : Int))).toNat) (0 : Int))) + (1 : Int))))), (36, [], .v (.c (.p (.sl (.int .u8)) u))), (37, [], .v (.c (.p (.int .i64) (u.length : Int)))), (38, [], .v (.c (.p (.int .i64) v38))), (50, [], .v (.c (.p (.sl (.int .u8)) v))), (51, [], .v (.c (.p (.int .i64) (v.length : Int)))), (52, [], .v (.c (.p (.int .i64) v52)))], [(25, [], .arr 3 (.int .i64) row3)]⟩ : St)) (by kernel_rfl) ⟨trivial, trivial, o1, trivial, trivial, trivial, o2, o3, trivial, trivial, o4, trivial, trivial⟩ ?_
              refine awd_done (by kernel_rfl) ?_
              refine thenQ_n ?_
              refine aw_seq ?_
              refine aw_seq ?_
              refine aw_region ?_
              refine awl_runp 3 [1, 7, 10, 11, 12, 14, 36, 37, 38, 50, 51, 52, 70] [25] (ob := (True ∧ True ∧ True ∧ True)) (st' := (⟨95, [(1, [], .v (.c (.p (.sl (.int .u8)) v))), (7, [], .v (.c (.own 25))), (10, [], .v (.c (.p (.int .u8) (u.getD (v38).toNat (0 : Int))))), (11, [], .v (.c (.p (.int .i64) last))), (12, [], .v (.c (.p (.int .i64) v52))), (14, [], .v (.c (.p (.int .i64) ((imin (row3.getD ((v52).toNat) (0 : Int)) (row3.getD (((v52 + (1 : Int))).toNat) (0 : Int))) + (1 : Int))))), (36, [], .v (.c (.p (.sl (.int .u8)) u))), (37, [], .v (.c (.p (.int .i64) (u.length : Int)))), (38, [], .v (.c (.p (.int .i64) v38))), (50, [], .v (.c (.p (.sl (.int .u8)) v))), (51, [], .v (.c (.p (.int .i64) (v.length : Int)))), (52, [], .v (.c (.p (.int .i64) v52))), (70, [], .v (.c (.p .bool (decide ((u.getD (v38).toNat (0 : Int)) = (v.getD (v52).toNat (0 : Int)))))))], [(25, [], .arr 3 (.int .i64) row3)]⟩ : St)) (by kernel_rfl) ⟨trivial, trivial, trivial, trivial⟩ ?_
              refine awl_nil ?_
              refine thenQ_n ?_
              refine withJoin (σ := Int) (fun s => (⟨95, [(1, [], .v (.c (.p (.sl (.int .u8)) v))), (7, [], .v (.c (.own 25))), (10, [], .v (.c (.p (.int .u8) (u.getD (v38).toNat (0 : Int))))), (12, [], .v (.c (.p (.int .i64) v52))), (14, [], .v (.c (.p (.int .i64) s))), (36, [], .v (.c (.p (.sl (.int .u8)) u))), (37, [], .v (.c (.p (.int .i64) (u.length : Int)))), (38, [], .v (.c (.p (.int .i64) v38))), (50, [], .v (.c (.p (.sl (.int .u8)) v))), (51, [], .v (.c (.p (.int .i64) (v.length : Int)))), (52, [], .v (.c (.p (.int .i64) v52)))], [(25, [], .arr 3 (.int .i64) row3)]⟩ : St)) (fun s => VC20_k4 v52 row3 X2 s) (fun best h => ?_) (fun rest3 => ?_)
              · have h : VC20_k4 v52 row3 X2 best := h
                unfold VC20_k4 at h
                refine thenQ_n ?_
                refine aw_seq ?_
                refine aw_region ?_
                obtain ⟨o1, o2, h⟩ := h
                refine awl_runp 6 [1, 7, 10, 11, 12, 14, 36, 37, 38, 50, 51, 52] [25] (ob := (True ∧ True ∧ InR (v52 + (1 : Int)) ∧ inIdx (v52 + (1 : Int)) row3.length ∧ True ∧ True ∧ True)) (st' := (⟨95, [(1, [], .v (.c (.p (.sl (.int .u8)) v))), (7, [], .v (.c (.own 25))), (10, [], .v (.c (.p (.int .u8) (u.getD (v38).toNat (0 : Int))))), (11, [], .v (.c (.p (.int .i64) (row3.getD (((v52 + (1 : Int))).toNat) (0 : Int))))), (12, [], .v (.c (.p (.int .i64) v52))), (14, [], .v (.c (.p (.int .i64) best))), (36, [], .v (.c (.p (.sl (.int .u8)) u))), (37, [], .v (.c (.p (.int .i64) (u.length : Int)))), (38, [], .v (.c (.p (.int .i64) v38))), (50, [], .v (.c (.p (.sl (.int .u8)) v))), (51, [], .v (.c (.p (.int .i64) (v.length : Int)))), (52, [], .v (.c (.p (.int .i64) v52)))], [(25, [], .arr 3 (.int .i64) row3)]⟩ : St)) (by kernel_rfl) ⟨trivial, trivial, o1, o2, trivial, trivial, trivial⟩ ?_
                refine awl_nil ?_
                refine thenQ_n ?_
                refine aw_region ?_
                obtain ⟨o1, o2, h⟩ := h
                refine awl_runp 6 [1, 7, 10, 11, 36, 37, 38, 50, 51, 52] [25] (ob := (True ∧ True ∧ InR (v52 + (1 : Int)) ∧ True ∧ inIdx (v52 + (1 : Int)) row3.length ∧ True ∧ True)) (st' := (⟨95, [(1, [], .v (.c (.p (.sl (.int .u8)) v))), (7, [], .v (.c (.own 25))), (10, [], .v (.c (.p (.int .u8) (u.getD (v38).toNat (0 : Int))))), (11, [], .v (.c (.p (.int .i64) (row3.getD (((v52 + (1 : Int))).toNat) (0 : Int))))), (36, [], .v (.c (.p (.sl (.int .u8)) u))), (37, [], .v (.c (.p (.int .i64) (u.length : Int)))), (38, [], .v (.c (.p (.int .i64) v38))), (50, [], .v (.c (.p (.sl (.int .u8)) v))), (51, [], .v (.c (.p (.int .i64) (v.length : Int)))), (52, [], .v (.c (.p (.int .i64) v52)))], [(25, [], .arr 3 (.int .i64) (row3.set (((v52 + (1 : Int))).toNat) best))]⟩ : St)) (by kernel_rfl) ⟨trivial, trivial, o1, trivial, o2, trivial, trivial⟩ ?_
                refine awl_nil ?_
                refine blockQ_n ?_
                refine thenQ_n ?_
                refine aw_region ?_
                obtain ⟨o1, h⟩ := h
                refine awl_runp 2 [1, 7, 10, 11, 36, 37, 38, 50, 51, 52] [25] (ob := (InR (v52 + (1 : Int)) ∧ True ∧ True)) (st' := (⟨95, [(1, [], .v (.c (.p (.sl (.int .u8)) v))), (7, [], .v (.c (.own 25))), (10, [], .v (.c (.p (.int .u8) (u.getD (v38).toNat (0 : Int))))), (11, [], .v (.c (.p (.int .i64) (row3.getD (((v52 + (1 : Int))).toNat) (0 : Int))))), (36, [], .v (.c (.p (.sl (.int .u8)) u))), (37, [], .v (.c (.p (.int .i64) (u.length : Int)))), (38, [], .v (.c (.p (.int .i64) v38))), (50, [], .v (.c (.p (.sl (.int .u8)) v))), (51, [], .v (.c (.p (.int .i64) (v.length : Int)))), (52, [], .v (.c (.p (.int .i64) (v52 + (1 : Int)))))], [(25, [], .arr 3 (.int .i64) (row3.set (((v52 + (1 : Int))).toNat) best))]⟩ : St)) (by kernel_rfl) ⟨o1, trivial, trivial⟩ ?_
                refine awl_nil ?_
                exact thenQ_n ⟨((row3.getD (((v52 + (1 : Int))).toNat) (0 : Int)), (v52 + (1 : Int)), (row3.set (((v52 + (1 : Int))).toNat) best)), rfl, h⟩
              · refine aw_cond (b := (decide ((u.getD (v38).toNat (0 : Int)) = (v.getD (v52).toNat (0 : Int))))) (by kernel_rfl) (fun hb => ?_) (fun hb => ?_)
                · have h := h.1 hb
                  refine aw_region ?_
                  refine awl_runp 4 [1, 7, 10, 12, 14, 36, 37, 38, 50, 51, 52] [25] (ob := (True ∧ True ∧ True ∧ True ∧ True)) (st' := (⟨95, [(1, [], .v (.c (.p (.sl (.int .u8)) v))), (7, [], .v (.c (.own 25))), (10, [], .v (.c (.p (.int .u8) (u.getD (v38).toNat (0 : Int))))), (12, [], .v (.c (.p (.int .i64) v52))), (14, [], .v (.c (.p (.int .i64) (imin ((imin (row3.getD ((v52).toNat) (0 : Int)) (row3.getD (((v52 + (1 : Int))).toNat) (0 : Int))) + (1 : Int)) last)))), (36, [], .v (.c (.p (.sl (.int .u8)) u))), (37, [], .v (.c (.p (.int .i64) (u.length : Int)))), (38, [], .v (.c (.p (.int .i64) v38))), (50, [], .v (.c (.p (.sl (.int .u8)) v))), (51, [], .v (.c (.p (.int .i64) (v.length : Int)))), (52, [], .v (.c (.p (.int .i64) v52)))], [(25, [], .arr 3 (.int .i64) row3)]⟩ : St)) (by kernel_rfl) ⟨trivial, trivial, trivial, trivial, trivial⟩ ?_
                  refine awl_nil ?_
                  exact rest3 (imin ((imin (row3.getD ((v52).toNat) (0 : Int)) (row3.getD (((v52 + (1 : Int))).toNat) (0 : Int))) + (1 : Int)) last) h
                · have h := h.2 hb
                  refine aw_region ?_
                  obtain ⟨o1, h⟩ := h
                  refine awl_runp 5 [1, 7, 10, 12, 14, 36, 37, 38, 50, 51, 52] [25] (ob := (True ∧ True ∧ InR (last + (1 : Int)) ∧ True ∧ True ∧ True)) (st' := (⟨95, [(1, [], .v (.c (.p (.sl (.int .u8)) v))), (7, [], .v (.c (.own 25))), (10, [], .v (.c (.p (.int .u8) (u.getD (v38).toNat (0 : Int))))), (12, [], .v (.c (.p (.int .i64) v52))), (14, [], .v (.c (.p (.int .i64) (imin ((imin (row3.getD ((v52).toNat) (0 : Int)) (row3.getD (((v52 + (1 : Int))).toNat) (0 : Int))) + (1 : Int)) (last + (1 : Int)))))), (36, [], .v (.c (.p (.sl (.int .u8)) u))), (37, [], .v (.c (.p (.int .i64) (u.length : Int)))), (38, [], .v (.c (.p (.int .i64) v38))), (50, [], .v (.c (.p (.sl (.int .u8)) v))), (51, [], .v (.c (.p (.int .i64) (v.length : Int)))), (52, [], .v (.c (.p (.int .i64) v52)))], [(25, [], .arr 3 (.int .i64) row3)]⟩ : St)) (by kernel_rfl) ⟨trivial, trivial, o1, trivial, trivial, trivial⟩ ?_
                  refine awl_nil ?_
                  exact rest3 (imin ((imin (row3.getD ((v52).toNat) (0 : Int)) (row3.getD (((v52 + (1 : Int))).toNat) (0 : Int))) + (1 : Int)) (last + (1 : Int))) h
            · have h := h.2 hb
              refine aw_conv [.prune [1, 7, 36, 37, 38] [25]] (st' := (⟨95, [(1, [], .v (.c (.p (.sl (.int .u8)) v))), (7, [], .v (.c (.own 25))), (36, [], .v (.c (.p (.sl (.int .u8)) u))), (37, [], .v (.c (.p (.int .i64) (u.length : Int)))), (38, [], .v (.c (.p (.int .i64) v38)))], [(25, [], .arr 3 (.int .i64) row3)]⟩ : St)) (by kernel_rfl) ?_
              refine aw_exit ?_
              refine thenQ_x ?_
              refine thenQ_x ?_
              refine blockQ_hit ?_
              exact rest2 row3 h
        · have h := h.2 hb
          refine aw_conv [.prune [1, 7] [25]] (st' := (⟨95, [(1, [], .v (.c (.p (.sl (.int .u8)) v))), (7, [], .v (.c (.own 25)))], [(25, [], .arr 3 (.int .i64) row2)]⟩ : St)) (by kernel_rfl) ?_
          refine aw_exit ?_
          refine thenQ_x ?_
          refine thenQ_x ?_
          refine blockQ_hit ?_
          exact rest1 row2 h
    · refine aw_block ?_
      refine aw_loop (σ := Int × (List Int)) (fun s => (⟨95, [(0, [], .v (.c (.p (.sl (.int .u8)) u))), (1, [], .v (.c (.p (.sl (.int .u8)) v))), (7, [], .v (.c (.own 25))), (27, [], .v (.c (.p (.int .i64) ((List.replicate (((v.length : Int) + (1 : Int))).toNat (0 : Int)).length : Int)))), (28, [], .v (.c (.p (.int .i64) s.1)))], [(25, [], .arr 3 (.int .i64) s.2)]⟩ : St)) (fun s X => VC20_l3 u v K s.1 s.2 X) (s0 := ((0 : Int), (List.replicate (((v.length : Int) + (1 : Int))).toNat (0 : Int)))) (fun s X3 h => ?_) h
      obtain ⟨v28, row⟩ := s
      have h : VC20_l3 u v K v28 row X3 := h
      unfold VC20_l3 at h
      refine aw_seq ?_
      refine aw_region ?_
      refine awl_runp 1 [0, 1, 7, 27, 28, 29] [25] (ob := (True ∧ True)) (st' := (⟨95, [(0, [], .v (.c (.p (.sl (.int .u8)) u))), (1, [], .v (.c (.p (.sl (.int .u8)) v))), (7, [], .v (.c (.own 25))), (27, [], .v (.c (.p (.int .i64) ((List.replicate (((v.length : Int) + (1 : Int))).toNat (0 : Int)).length : Int)))), (28, [], .v (.c (.p (.int .i64) v28))), (29, [], .v (.c (.p .bool (decide (v28 < ((List.replicate (((v.length : Int) + (1 : Int))).toNat (0 : Int)).length : Int))))))], [(25, [], .arr 3 (.int .i64) row)]⟩ : St)) (by kernel_rfl) ⟨trivial, trivial⟩ ?_
      refine awl_nil ?_
      refine thenQ_n ?_
      refine aw_seq ?_
      refine aw_cond (b := (decide (v28 < ((List.replicate (((v.length : Int) + (1 : Int))).toNat (0 : Int)).length : Int)))) (by kernel_rfl) (fun hb => ?_) (fun hb => ?_)
      · have h := h.1 hb
        refine aw_skip ?_
        refine thenQ_n ?_
        refine aw_seq ?_
        refine aw_block ?_
        refine aw_seq ?_
        refine aw_region ?_
        refine awl_runp 2 [0, 1, 7, 8, 27, 28] [25] (ob := (True ∧ True ∧ True)) (st' := (⟨95, [(0, [], .v (.c (.p (.sl (.int .u8)) u))), (1, [], .v (.c (.p (.sl (.int .u8)) v))), (7, [], .v (.c (.own 25))), (8, [], .v (.c (.p (.int .i64) v28))), (27, [], .v (.c (.p (.int .i64) ((List.replicate (((v.length : Int) + (1 : Int))).toNat (0 : Int)).length : Int)))), (28, [], .v (.c (.p (.int .i64) v28)))], [(25, [], .arr 3 (.int .i64) row)]⟩ : St)) (by kernel_rfl) ⟨trivial, trivial, trivial⟩ ?_
        refine awl_nil ?_
        refine thenQ_n ?_
        refine aw_region ?_
        obtain ⟨o1, h⟩ := h
        refine awl_runp 5 [0, 1, 7, 27, 28] [25] (ob := (True ∧ True ∧ True ∧ inIdx v28 row.length ∧ True ∧ True)) (st' := (⟨95, [(0, [], .v (.c (.p (.sl (.int .u8)) u))), (1, [], .v (.c (.p (.sl (.int .u8)) v))), (7, [], .v (.c (.own 25))), (27, [], .v (.c (.p (.int .i64) ((List.replicate (((v.length : Int) + (1 : Int))).toNat (0 : Int)).length : Int)))), (28, [], .v (.c (.p (.int .i64) v28)))], [(25, [], .arr 3 (.int .i64) (row.set ((v28).toNat) v28))]⟩ : St)) (by kernel_rfl) ⟨trivial, trivial, trivial, o1, trivial, trivial⟩ ?_
        refine awl_nil ?_
        refine blockQ_n ?_
        refine thenQ_n ?_
        refine aw_region ?_
        obtain ⟨o1, h⟩ := h
        refine awl_runp 2 [0, 1, 7, 27, 28] [25] (ob := (InR (v28 + (1 : Int)) ∧ True ∧ True)) (st' := (⟨95, [(0, [], .v (.c (.p (.sl (.int .u8)) u))), (1, [], .v (.c (.p (.sl (.int .u8)) v))), (7, [], .v (.c (.own 25))), (27, [], .v (.c (.p (.int .i64) ((List.replicate (((v.length : Int) + (1 : Int))).toNat (0 : Int)).length : Int)))), (28, [], .v (.c (.p (.int .i64) (v28 + (1 : Int)))))], [(25, [], .arr 3 (.int .i64) (row.set ((v28).toNat) v28))]⟩ : St)) (by kernel_rfl) ⟨o1, trivial, trivial⟩ ?_
        refine awl_nil ?_
        exact thenQ_n ⟨((v28 + (1 : Int)), (row.set ((v28).toNat) v28)), rfl, h⟩
      · have h := h.2 hb
        refine aw_conv [.prune [0, 1, 7] [25]] (st' := (⟨95, [(0, [], .v (.c (.p (.sl (.int .u8)) u))), (1, [], .v (.c (.p (.sl (.int .u8)) v))), (7, [], .v (.c (.own 25)))], [(25, [], .arr 3 (.int .i64) row)]⟩ : St)) (by kernel_rfl) ?_
        refine aw_exit ?_
        refine thenQ_x ?_
        refine thenQ_x ?_
        refine blockQ_hit ?_
        exact rest4 row h

-- coppicer/coppicerkeep.EditShared
def VC13 (u : (List Int)) (v : (List Int)) (x : (List Int)) (K : Bool → Prop) : Prop :=
  VC34 u v (fun (ret20v : (List Int) × Int) => VC16 [u, v] (fun (ret26v : Bool) => ((ret26v = true → K (!decide (ret20v.2 = (0 : Int)))) ∧ (ret26v = false → VC35 ret20v.1 u (fun (ret32v : Bool × Int) => VC35 ret20v.1 v (fun (ret38v : Bool × Int) => VC20 u v (fun (ret44v : Int × Int) => ((((((((!decide (ret20v.2 = (0 : Int))) || (!decide (ret32v.2 = (0 : Int)))) || (!decide (ret38v.2 = (0 : Int)))) || (!decide (ret44v.2 = (0 : Int)))) || (!ret32v.1)) || (!ret38v.1)) = false → InR ((u.length : Int) + (v.length : Int))) ∧ (((((((!decide (ret20v.2 = (0 : Int))) || (!decide (ret32v.2 = (0 : Int)))) || (!decide (ret38v.2 = (0 : Int)))) || (!decide (ret44v.2 = (0 : Int)))) || (!ret32v.1)) || (!ret38v.1)) = false → InR ((2 : Int) * (ret20v.1.length : Int))) ∧ (((((((!decide (ret20v.2 = (0 : Int))) || (!decide (ret32v.2 = (0 : Int)))) || (!decide (ret38v.2 = (0 : Int)))) || (!decide (ret44v.2 = (0 : Int)))) || (!ret32v.1)) || (!ret38v.1)) = false → InR (((u.length : Int) + (v.length : Int)) - ((2 : Int) * (ret20v.1.length : Int)))) ∧ (((((((((!decide (ret20v.2 = (0 : Int))) || (!decide (ret32v.2 = (0 : Int)))) || (!decide (ret38v.2 = (0 : Int)))) || (!decide (ret44v.2 = (0 : Int)))) || (!ret32v.1)) || (!ret38v.1)) || (decide ((((u.length : Int) + (v.length : Int)) - ((2 : Int) * (ret20v.1.length : Int))) < ret44v.1))) = true → K false) ∧ ((((((((!decide (ret20v.2 = (0 : Int))) || (!decide (ret32v.2 = (0 : Int)))) || (!decide (ret38v.2 = (0 : Int)))) || (!decide (ret44v.2 = (0 : Int)))) || (!ret32v.1)) || (!ret38v.1)) || (decide ((((u.length : Int) + (v.length : Int)) - ((2 : Int) * (ret20v.1.length : Int))) < ret44v.1))) = false → VC35 x u (fun (ret85v : Bool × Int) => VC35 x v (fun (ret91v : Bool × Int) => K (((((!decide (ret85v.2 = (0 : Int))) || (!decide (ret91v.2 = (0 : Int)))) || (!ret85v.1)) || (!ret91v.1)) || (decide ((x.length : Int) ≤ (ret20v.1.length : Int))))))))))))))))

set_option maxHeartbeats 4000000 in
theorem link13 (u : (List Int)) (v : (List Int)) (x : (List Int)) (K : Bool → Prop) (h : VC13 u v x K) : ACalls Try.prog 13 [toV1 (.sl (.int .u8)) u, toV1 (.sl (.int .u8)) v, toV1 (.sl (.int .u8)) x] (fun res => ∃ y, res = (fun y => [toV1 .bool y]) y ∧ K y) := by
  refine acalls_of_aw [.bool] [.t 6] Try.func13 rfl rfl rfl ?_
  unfold VC13 at h
  refine aw_seq ?_
  refine aw_region ?_
  refine awl_runp 1 [0, 1, 2] [] (ob := (True ∧ True)) (st' := (⟨115, [(0, [], .v (.c (.p (.sl (.int .u8)) u))), (1, [], .v (.c (.p (.sl (.int .u8)) v))), (2, [], .v (.c (.p (.sl (.int .u8)) x)))], []⟩ : St)) (by kernel_rfl) ⟨trivial, trivial⟩ ?_
  refine awl_nil ?_
  refine thenQ_n ?_
  refine aw_seq ?_
  refine aw_region ?_
  refine awl_runp 2 [0, 1, 2, 18, 19] [] (ob := (True ∧ True ∧ True)) (st' := (⟨115, [(0, [], .v (.c (.p (.sl (.int .u8)) u))), (1, [], .v (.c (.p (.sl (.int .u8)) v))), (2, [], .v (.c (.p (.sl (.int .u8)) x))), (18, [], .v (.c (.p (.sl (.int .u8)) u))), (19, [], .v (.c (.p (.sl (.int .u8)) v)))], []⟩ : St)) (by kernel_rfl) ⟨trivial, trivial, trivial⟩ ?_
  refine awl_callk (p := []) (l := [toV1 (.sl (.int .u8)) u, toV1 (.sl (.int .u8)) v]) (cl := []) false [.d (.sl (.int .u8)), .d (.sl (.int .u8))] [0, 1, 2, 20] [] (fun (ret20v : (List Int) × Int) => VC16 [u, v] (fun (ret26v : Bool) => ((ret26v = true → K (!decide (ret20v.2 = (0 : Int)))) ∧ (ret26v = false → VC35 ret20v.1 u (fun (ret32v : Bool × Int) => VC35 ret20v.1 v (fun (ret38v : Bool × Int) => VC20 u v (fun (ret44v : Int × Int) => ((((((((!decide (ret20v.2 = (0 : Int))) || (!decide (ret32v.2 = (0 : Int)))) || (!decide (ret38v.2 = (0 : Int)))) || (!decide (ret44v.2 = (0 : Int)))) || (!ret32v.1)) || (!ret38v.1)) = false → InR ((u.length : Int) + (v.length : Int))) ∧ (((((((!decide (ret20v.2 = (0 : Int))) || (!decide (ret32v.2 = (0 : Int)))) || (!decide (ret38v.2 = (0 : Int)))) || (!decide (ret44v.2 = (0 : Int)))) || (!ret32v.1)) || (!ret38v.1)) = false → InR ((2 : Int) * (ret20v.1.length : Int))) ∧ (((((((!decide (ret20v.2 = (0 : Int))) || (!decide (ret32v.2 = (0 : Int)))) || (!decide (ret38v.2 = (0 : Int)))) || (!decide (ret44v.2 = (0 : Int)))) || (!ret32v.1)) || (!ret38v.1)) = false → InR (((u.length : Int) + (v.length : Int)) - ((2 : Int) * (ret20v.1.length : Int)))) ∧ (((((((((!decide (ret20v.2 = (0 : Int))) || (!decide (ret32v.2 = (0 : Int)))) || (!decide (ret38v.2 = (0 : Int)))) || (!decide (ret44v.2 = (0 : Int)))) || (!ret32v.1)) || (!ret38v.1)) || (decide ((((u.length : Int) + (v.length : Int)) - ((2 : Int) * (ret20v.1.length : Int))) < ret44v.1))) = true → K false) ∧ ((((((((!decide (ret20v.2 = (0 : Int))) || (!decide (ret32v.2 = (0 : Int)))) || (!decide (ret38v.2 = (0 : Int)))) || (!decide (ret44v.2 = (0 : Int)))) || (!ret32v.1)) || (!ret38v.1)) || (decide ((((u.length : Int) + (v.length : Int)) - ((2 : Int) * (ret20v.1.length : Int))) < ret44v.1))) = false → VC35 x u (fun (ret85v : Bool × Int) => VC35 x v (fun (ret91v : Bool × Int) => K (((((!decide (ret85v.2 = (0 : Int))) || (!decide (ret91v.2 = (0 : Int)))) || (!ret85v.1)) || (!ret91v.1)) || (decide ((x.length : Int) ≤ (ret20v.1.length : Int)))))))))))))))) (fun ret20v => [toV1 (.sl (.int .u8)) ret20v.1, toV1 (.int .i64) ret20v.2]) (fun ret20v => (⟨115, [(0, [], .v (.c (.p (.sl (.int .u8)) u))), (1, [], .v (.c (.p (.sl (.int .u8)) v))), (2, [], .v (.c (.p (.sl (.int .u8)) x))), (20, [], .tup [.c (.p (.sl (.int .u8)) ret20v.1), .c (.p (.int .i64) ret20v.2)])], []⟩ : St)) (by kernel_rfl) rfl (by kernel_rfl) rfl (by kernel_rfl) Try.call34 (by kernel_rfl) (fun ret20v => by kernel_rfl) (fun e => by cases e) (fun hg => link34 u v _ h) (fun hg => noF hg) (fun ret20v h => ?_)
  have h : VC16 [u, v] (fun (ret26v : Bool) => ((ret26v = true → K (!decide (ret20v.2 = (0 : Int)))) ∧ (ret26v = false → VC35 ret20v.1 u (fun (ret32v : Bool × Int) => VC35 ret20v.1 v (fun (ret38v : Bool × Int) => VC20 u v (fun (ret44v : Int × Int) => ((((((((!decide (ret20v.2 = (0 : Int))) || (!decide (ret32v.2 = (0 : Int)))) || (!decide (ret38v.2 = (0 : Int)))) || (!decide (ret44v.2 = (0 : Int)))) || (!ret32v.1)) || (!ret38v.1)) = false → InR ((u.length : Int) + (v.length : Int))) ∧ (((((((!decide (ret20v.2 = (0 : Int))) || (!decide (ret32v.2 = (0 : Int)))) || (!decide (ret38v.2 = (0 : Int)))) || (!decide (ret44v.2 = (0 : Int)))) || (!ret32v.1)) || (!ret38v.1)) = false → InR ((2 : Int) * (ret20v.1.length : Int))) ∧ (((((((!decide (ret20v.2 = (0 : Int))) || (!decide (ret32v.2 = (0 : Int)))) || (!decide (ret38v.2 = (0 : Int)))) || (!decide (ret44v.2 = (0 : Int)))) || (!ret32v.1)) || (!ret38v.1)) = false → InR (((u.length : Int) + (v.length : Int)) - ((2 : Int) * (ret20v.1.length : Int)))) ∧ (((((((((!decide (ret20v.2 = (0 : Int))) || (!decide (ret32v.2 = (0 : Int)))) || (!decide (ret38v.2 = (0 : Int)))) || (!decide (ret44v.2 = (0 : Int)))) || (!ret32v.1)) || (!ret38v.1)) || (decide ((((u.length : Int) + (v.length : Int)) - ((2 : Int) * (ret20v.1.length : Int))) < ret44v.1))) = true → K false) ∧ ((((((((!decide (ret20v.2 = (0 : Int))) || (!decide (ret32v.2 = (0 : Int)))) || (!decide (ret38v.2 = (0 : Int)))) || (!decide (ret44v.2 = (0 : Int)))) || (!ret32v.1)) || (!ret38v.1)) || (decide ((((u.length : Int) + (v.length : Int)) - ((2 : Int) * (ret20v.1.length : Int))) < ret44v.1))) = false → VC35 x u (fun (ret85v : Bool × Int) => VC35 x v (fun (ret91v : Bool × Int) => K (((((!decide (ret85v.2 = (0 : Int))) || (!decide (ret91v.2 = (0 : Int)))) || (!ret85v.1)) || (!ret91v.1)) || (decide ((x.length : Int) ≤ (ret20v.1.length : Int))))))))))))))) := h
  refine awl_runp 5 [0, 1, 2, 7, 8] [] (ob := (True ∧ True ∧ True ∧ True ∧ True ∧ True)) (st' := (⟨115, [(0, [], .v (.c (.p (.sl (.int .u8)) u))), (1, [], .v (.c (.p (.sl (.int .u8)) v))), (2, [], .v (.c (.p (.sl (.int .u8)) x))), (7, [], .v (.c (.p (.sl (.int .u8)) ret20v.1))), (8, [], .v (.c (.p (.int .i64) ret20v.2)))], []⟩ : St)) (by kernel_rfl) ⟨trivial, trivial, trivial, trivial, trivial, trivial⟩ ?_
  refine awl_nil ?_
  refine thenQ_n ?_
  refine aw_seq ?_
  refine aw_seq ?_
  refine aw_region ?_
  refine awl_runp 3 [0, 1, 2, 7, 8, 25] [25] (ob := (True ∧ True ∧ True ∧ True)) (st' := (⟨115, [(0, [], .v (.c (.p (.sl (.int .u8)) u))), (1, [], .v (.c (.p (.sl (.int .u8)) v))), (2, [], .v (.c (.p (.sl (.int .u8)) x))), (7, [], .v (.c (.p (.sl (.int .u8)) ret20v.1))), (8, [], .v (.c (.p (.int .i64) ret20v.2))), (25, [], .v (.c (.own 25)))], [(25, [], .arr 22 (.sl (.int .u8)) [u, v])]⟩ : St)) (by kernel_rfl) ⟨trivial, trivial, trivial, trivial⟩ ?_
  refine awl_callk (p := []) (l := [toV1 (.sl (.sl (.int .u8))) [u, v]]) (cl := []) true [.d (.sl (.sl (.int .u8)))] [0, 1, 2, 7, 8, 26] [] (fun (ret26v : Bool) => ((ret26v = true → K (!decide (ret20v.2 = (0 : Int)))) ∧ (ret26v = false → VC35 ret20v.1 u (fun (ret32v : Bool × Int) => VC35 ret20v.1 v (fun (ret38v : Bool × Int) => VC20 u v (fun (ret44v : Int × Int) => ((((((((!decide (ret20v.2 = (0 : Int))) || (!decide (ret32v.2 = (0 : Int)))) || (!decide (ret38v.2 = (0 : Int)))) || (!decide (ret44v.2 = (0 : Int)))) || (!ret32v.1)) || (!ret38v.1)) = false → InR ((u.length : Int) + (v.length : Int))) ∧ (((((((!decide (ret20v.2 = (0 : Int))) || (!decide (ret32v.2 = (0 : Int)))) || (!decide (ret38v.2 = (0 : Int)))) || (!decide (ret44v.2 = (0 : Int)))) || (!ret32v.1)) || (!ret38v.1)) = false → InR ((2 : Int) * (ret20v.1.length : Int))) ∧ (((((((!decide (ret20v.2 = (0 : Int))) || (!decide (ret32v.2 = (0 : Int)))) || (!decide (ret38v.2 = (0 : Int)))) || (!decide (ret44v.2 = (0 : Int)))) || (!ret32v.1)) || (!ret38v.1)) = false → InR (((u.length : Int) + (v.length : Int)) - ((2 : Int) * (ret20v.1.length : Int)))) ∧ (((((((((!decide (ret20v.2 = (0 : Int))) || (!decide (ret32v.2 = (0 : Int)))) || (!decide (ret38v.2 = (0 : Int)))) || (!decide (ret44v.2 = (0 : Int)))) || (!ret32v.1)) || (!ret38v.1)) || (decide ((((u.length : Int) + (v.length : Int)) - ((2 : Int) * (ret20v.1.length : Int))) < ret44v.1))) = true → K false) ∧ ((((((((!decide (ret20v.2 = (0 : Int))) || (!decide (ret32v.2 = (0 : Int)))) || (!decide (ret38v.2 = (0 : Int)))) || (!decide (ret44v.2 = (0 : Int)))) || (!ret32v.1)) || (!ret38v.1)) || (decide ((((u.length : Int) + (v.length : Int)) - ((2 : Int) * (ret20v.1.length : Int))) < ret44v.1))) = false → VC35 x u (fun (ret85v : Bool × Int) => VC35 x v (fun (ret91v : Bool × Int) => K (((((!decide (ret85v.2 = (0 : Int))) || (!decide (ret91v.2 = (0 : Int)))) || (!ret85v.1)) || (!ret91v.1)) || (decide ((x.length : Int) ≤ (ret20v.1.length : Int))))))))))))))) (fun ret26v => [toV1 .bool ret26v]) (fun ret26v => (⟨115, [(0, [], .v (.c (.p (.sl (.int .u8)) u))), (1, [], .v (.c (.p (.sl (.int .u8)) v))), (2, [], .v (.c (.p (.sl (.int .u8)) x))), (7, [], .v (.c (.p (.sl (.int .u8)) ret20v.1))), (8, [], .v (.c (.p (.int .i64) ret20v.2))), (26, [], .v (.c (.p .bool ret26v)))], []⟩ : St)) (by kernel_rfl) rfl (by kernel_rfl) rfl (by kernel_rfl) Try.call16 (by kernel_rfl) (fun ret26v => by kernel_rfl) (fun _ _ => rfl) (fun hg => link16 [u, v] _ h) (fun hg => noF hg) (fun ret26v h => ?_)
  have h : ((ret26v = true → K (!decide (ret20v.2 = (0 : Int)))) ∧ (ret26v = false → VC35 ret20v.1 u (fun (ret32v : Bool × Int) => VC35 ret20v.1 v (fun (ret38v : Bool × Int) => VC20 u v (fun (ret44v : Int × Int) => ((((((((!decide (ret20v.2 = (0 : Int))) || (!decide (ret32v.2 = (0 : Int)))) || (!decide (ret38v.2 = (0 : Int)))) || (!decide (ret44v.2 = (0 : Int)))) || (!ret32v.1)) || (!ret38v.1)) = false → InR ((u.length : Int) + (v.length : Int))) ∧ (((((((!decide (ret20v.2 = (0 : Int))) || (!decide (ret32v.2 = (0 : Int)))) || (!decide (ret38v.2 = (0 : Int)))) || (!decide (ret44v.2 = (0 : Int)))) || (!ret32v.1)) || (!ret38v.1)) = false → InR ((2 : Int) * (ret20v.1.length : Int))) ∧ (((((((!decide (ret20v.2 = (0 : Int))) || (!decide (ret32v.2 = (0 : Int)))) || (!decide (ret38v.2 = (0 : Int)))) || (!decide (ret44v.2 = (0 : Int)))) || (!ret32v.1)) || (!ret38v.1)) = false → InR (((u.length : Int) + (v.length : Int)) - ((2 : Int) * (ret20v.1.length : Int)))) ∧ (((((((((!decide (ret20v.2 = (0 : Int))) || (!decide (ret32v.2 = (0 : Int)))) || (!decide (ret38v.2 = (0 : Int)))) || (!decide (ret44v.2 = (0 : Int)))) || (!ret32v.1)) || (!ret38v.1)) || (decide ((((u.length : Int) + (v.length : Int)) - ((2 : Int) * (ret20v.1.length : Int))) < ret44v.1))) = true → K false) ∧ ((((((((!decide (ret20v.2 = (0 : Int))) || (!decide (ret32v.2 = (0 : Int)))) || (!decide (ret38v.2 = (0 : Int)))) || (!decide (ret44v.2 = (0 : Int)))) || (!ret32v.1)) || (!ret38v.1)) || (decide ((((u.length : Int) + (v.length : Int)) - ((2 : Int) * (ret20v.1.length : Int))) < ret44v.1))) = false → VC35 x u (fun (ret85v : Bool × Int) => VC35 x v (fun (ret91v : Bool × Int) => K (((((!decide (ret85v.2 = (0 : Int))) || (!decide (ret91v.2 = (0 : Int)))) || (!ret85v.1)) || (!ret91v.1)) || (decide ((x.length : Int) ≤ (ret20v.1.length : Int)))))))))))))) := h
  refine awl_nil ?_
  refine thenQ_n ?_
  refine aw_cond (b := ret26v) (by kernel_rfl) (fun hb => ?_) (fun hb => ?_)
  · have h := h.1 hb
    refine aw_seq ?_
    refine aw_region ?_
    refine awl_runp 3 [6] [] (ob := (True ∧ True ∧ True ∧ True)) (st' := (⟨115, [(6, [], .v (.c (.p .bool (!decide (ret20v.2 = (0 : Int))))))], []⟩ : St)) (by kernel_rfl) ⟨trivial, trivial, trivial, trivial⟩ ?_
    refine awl_nil ?_
    refine thenQ_n ?_
    refine aw_ret ?_
    refine thenQ_r ?_
    exact retQ_r (σ := Bool) (R := (fun y => [toV1 .bool y])) (ob := (True ∧ True)) (!decide (ret20v.2 = (0 : Int))) (by kernel_rfl) ⟨trivial, trivial⟩ h
  · have h := h.2 hb
    refine aw_skip ?_
    refine thenQ_n ?_
    refine aw_seq ?_
    refine aw_region ?_
    refine awl_runp 2 [0, 1, 2, 7, 8, 30, 31] [] (ob := (True ∧ True ∧ True)) (st' := (⟨115, [(0, [], .v (.c (.p (.sl (.int .u8)) u))), (1, [], .v (.c (.p (.sl (.int .u8)) v))), (2, [], .v (.c (.p (.sl (.int .u8)) x))), (7, [], .v (.c (.p (.sl (.int .u8)) ret20v.1))), (8, [], .v (.c (.p (.int .i64) ret20v.2))), (30, [], .v (.c (.p (.sl (.int .u8)) ret20v.1))), (31, [], .v (.c (.p (.sl (.int .u8)) u)))], []⟩ : St)) (by kernel_rfl) ⟨trivial, trivial, trivial⟩ ?_
    refine awl_callk (p := []) (l := [toV1 (.sl (.int .u8)) ret20v.1, toV1 (.sl (.int .u8)) u]) (cl := []) false [.d (.sl (.int .u8)), .d (.sl (.int .u8))] [0, 1, 2, 7, 8, 32] [] (fun (ret32v : Bool × Int) => VC35 ret20v.1 v (fun (ret38v : Bool × Int) => VC20 u v (fun (ret44v : Int × Int) => ((((((((!decide (ret20v.2 = (0 : Int))) || (!decide (ret32v.2 = (0 : Int)))) || (!decide (ret38v.2 = (0 : Int)))) || (!decide (ret44v.2 = (0 : Int)))) || (!ret32v.1)) || (!ret38v.1)) = false → InR ((u.length : Int) + (v.length : Int))) ∧ (((((((!decide (ret20v.2 = (0 : Int))) || (!decide (ret32v.2 = (0 : Int)))) || (!decide (ret38v.2 = (0 : Int)))) || (!decide (ret44v.2 = (0 : Int)))) || (!ret32v.1)) || (!ret38v.1)) = false → InR ((2 : Int) * (ret20v.1.length : Int))) ∧ (((((((!decide (ret20v.2 = (0 : Int))) || (!decide (ret32v.2 = (0 : Int)))) || (!decide (ret38v.2 = (0 : Int)))) || (!decide (ret44v.2 = (0 : Int)))) || (!ret32v.1)) || (!ret38v.1)) = false → InR (((u.length : Int) + (v.length : Int)) - ((2 : Int) * (ret20v.1.length : Int)))) ∧ (((((((((!decide (ret20v.2 = (0 : Int))) || (!decide (ret32v.2 = (0 : Int)))) || (!decide (ret38v.2 = (0 : Int)))) || (!decide (ret44v.2 = (0 : Int)))) || (!ret32v.1)) || (!ret38v.1)) || (decide ((((u.length : Int) + (v.length : Int)) - ((2 : Int) * (ret20v.1.length : Int))) < ret44v.1))) = true → K false) ∧ ((((((((!decide (ret20v.2 = (0 : Int))) || (!decide (ret32v.2 = (0 : Int)))) || (!decide (ret38v.2 = (0 : Int)))) || (!decide (ret44v.2 = (0 : Int)))) || (!ret32v.1)) || (!ret38v.1)) || (decide ((((u.length : Int) + (v.length : Int)) - ((2 : Int) * (ret20v.1.length : Int))) < ret44v.1))) = false → VC35 x u (fun (ret85v : Bool × Int) => VC35 x v (fun (ret91v : Bool × Int) => K (((((!decide (ret85v.2 = (0 : Int))) || (!decide (ret91v.2 = (0 : Int)))) || (!ret85v.1)) || (!ret91v.1)) || (decide ((x.length : Int) ≤ (ret20v.1.length : Int)))))))))))) (fun ret32v => [toV1 .bool ret32v.1, toV1 (.int .i64) ret32v.2]) (fun ret32v => (⟨115, [(0, [], .v (.c (.p (.sl (.int .u8)) u))), (1, [], .v (.c (.p (.sl (.int .u8)) v))), (2, [], .v (.c (.p (.sl (.int .u8)) x))), (7, [], .v (.c (.p (.sl (.int .u8)) ret20v.1))), (8, [], .v (.c (.p (.int .i64) ret20v.2))), (32, [], .tup [.c (.p .bool ret32v.1), .c (.p (.int .i64) ret32v.2)])], []⟩ : St)) (by kernel_rfl) rfl (by kernel_rfl) rfl (by kernel_rfl) Try.call35 (by kernel_rfl) (fun ret32v => by kernel_rfl) (fun e => by cases e) (fun hg => link35 ret20v.1 u _ h) (fun hg => noF hg) (fun ret32v h => ?_)
    have h : VC35 ret20v.1 v (fun (ret38v : Bool × Int) => VC20 u v (fun (ret44v : Int × Int) => ((((((((!decide (ret20v.2 = (0 : Int))) || (!decide (ret32v.2 = (0 : Int)))) || (!decide (ret38v.2 = (0 : Int)))) || (!decide (ret44v.2 = (0 : Int)))) || (!ret32v.1)) || (!ret38v.1)) = false → InR ((u.length : Int) + (v.length : Int))) ∧ (((((((!decide (ret20v.2 = (0 : Int))) || (!decide (ret32v.2 = (0 : Int)))) || (!decide (ret38v.2 = (0 : Int)))) || (!decide (ret44v.2 = (0 : Int)))) || (!ret32v.1)) || (!ret38v.1)) = false → InR ((2 : Int) * (ret20v.1.length : Int))) ∧ (((((((!decide (ret20v.2 = (0 : Int))) || (!decide (ret32v.2 = (0 : Int)))) || (!decide (ret38v.2 = (0 : Int)))) || (!decide (ret44v.2 = (0 : Int)))) || (!ret32v.1)) || (!ret38v.1)) = false → InR (((u.length : Int) + (v.length : Int)) - ((2 : Int) * (ret20v.1.length : Int)))) ∧ (((((((((!decide (ret20v.2 = (0 : Int))) || (!decide (ret32v.2 = (0 : Int)))) || (!decide (ret38v.2 = (0 : Int)))) || (!decide (ret44v.2 = (0 : Int)))) || (!ret32v.1)) || (!ret38v.1)) || (decide ((((u.length : Int) + (v.length : Int)) - ((2 : Int) * (ret20v.1.length : Int))) < ret44v.1))) = true → K false) ∧ ((((((((!decide (ret20v.2 = (0 : Int))) || (!decide (ret32v.2 = (0 : Int)))) || (!decide (ret38v.2 = (0 : Int)))) || (!decide (ret44v.2 = (0 : Int)))) || (!ret32v.1)) || (!ret38v.1)) || (decide ((((u.length : Int) + (v.length : Int)) - ((2 : Int) * (ret20v.1.length : Int))) < ret44v.1))) = false → VC35 x u (fun (ret85v : Bool × Int) => VC35 x v (fun (ret91v : Bool × Int) => K (((((!decide (ret85v.2 = (0 : Int))) || (!decide (ret91v.2 = (0 : Int)))) || (!ret85v.1)) || (!ret91v.1)) || (decide ((x.length : Int) ≤ (ret20v.1.length : Int))))))))))) := h
    refine awl_runp 5 [0, 1, 2, 7, 8, 9, 10] [] (ob := (True ∧ True ∧ True ∧ True ∧ True ∧ True)) (st' := (⟨115, [(0, [], .v (.c (.p (.sl (.int .u8)) u))), (1, [], .v (.c (.p (.sl (.int .u8)) v))), (2, [], .v (.c (.p (.sl (.int .u8)) x))), (7, [], .v (.c (.p (.sl (.int .u8)) ret20v.1))), (8, [], .v (.c (.p (.int .i64) ret20v.2))), (9, [], .v (.c (.p .bool ret32v.1))), (10, [], .v (.c (.p (.int .i64) ret32v.2)))], []⟩ : St)) (by kernel_rfl) ⟨trivial, trivial, trivial, trivial, trivial, trivial⟩ ?_
    refine awl_nil ?_
    refine thenQ_n ?_
    refine aw_seq ?_
    refine aw_region ?_
    refine awl_runp 2 [0, 1, 2, 7, 8, 9, 10, 36, 37] [] (ob := (True ∧ True ∧ True)) (st' := (⟨115, [(0, [], .v (.c (.p (.sl (.int .u8)) u))), (1, [], .v (.c (.p (.sl (.int .u8)) v))), (2, [], .v (.c (.p (.sl (.int .u8)) x))), (7, [], .v (.c (.p (.sl (.int .u8)) ret20v.1))), (8, [], .v (.c (.p (.int .i64) ret20v.2))), (9, [], .v (.c (.p .bool ret32v.1))), (10, [], .v (.c (.p (.int .i64) ret32v.2))), (36, [], .v (.c (.p (.sl (.int .u8)) ret20v.1))), (37, [], .v (.c (.p (.sl (.int .u8)) v)))], []⟩ : St)) (by kernel_rfl) ⟨trivial, trivial, trivial⟩ ?_
    refine awl_callk (p := []) (l := [toV1 (.sl (.int .u8)) ret20v.1, toV1 (.sl (.int .u8)) v]) (cl := []) false [.d (.sl (.int .u8)), .d (.sl (.int .u8))] [0, 1, 2, 7, 8, 9, 10, 38] [] (fun (ret38v : Bool × Int) => VC20 u v (fun (ret44v : Int × Int) => ((((((((!decide (ret20v.2 = (0 : Int))) || (!decide (ret32v.2 = (0 : Int)))) || (!decide (ret38v.2 = (0 : Int)))) || (!decide (ret44v.2 = (0 : Int)))) || (!ret32v.1)) || (!ret38v.1)) = false → InR ((u.length : Int) + (v.length : Int))) ∧ (((((((!decide (ret20v.2 = (0 : Int))) || (!decide (ret32v.2 = (0 : Int)))) || (!decide (ret38v.2 = (0 : Int)))) || (!decide (ret44v.2 = (0 : Int)))) || (!ret32v.1)) || (!ret38v.1)) = false → InR ((2 : Int) * (ret20v.1.length : Int))) ∧ (((((((!decide (ret20v.2 = (0 : Int))) || (!decide (ret32v.2 = (0 : Int)))) || (!decide (ret38v.2 = (0 : Int)))) || (!decide (ret44v.2 = (0 : Int)))) || (!ret32v.1)) || (!ret38v.1)) = false → InR (((u.length : Int) + (v.length : Int)) - ((2 : Int) * (ret20v.1.length : Int)))) ∧ (((((((((!decide (ret20v.2 = (0 : Int))) || (!decide (ret32v.2 = (0 : Int)))) || (!decide (ret38v.2 = (0 : Int)))) || (!decide (ret44v.2 = (0 : Int)))) || (!ret32v.1)) || (!ret38v.1)) || (decide ((((u.length : Int) + (v.length : Int)) - ((2 : Int) * (ret20v.1.length : Int))) < ret44v.1))) = true → K false) ∧ ((((((((!decide (ret20v.2 = (0 : Int))) || (!decide (ret32v.2 = (0 : Int)))) || (!decide (ret38v.2 = (0 : Int)))) || (!decide (ret44v.2 = (0 : Int)))) || (!ret32v.1)) || (!ret38v.1)) || (decide ((((u.length : Int) + (v.length : Int)) - ((2 : Int) * (ret20v.1.length : Int))) < ret44v.1))) = false → VC35 x u (fun (ret85v : Bool × Int) => VC35 x v (fun (ret91v : Bool × Int) => K (((((!decide (ret85v.2 = (0 : Int))) || (!decide (ret91v.2 = (0 : Int)))) || (!ret85v.1)) || (!ret91v.1)) || (decide ((x.length : Int) ≤ (ret20v.1.length : Int))))))))))) (fun ret38v => [toV1 .bool ret38v.1, toV1 (.int .i64) ret38v.2]) (fun ret38v => (⟨115, [(0, [], .v (.c (.p (.sl (.int .u8)) u))), (1, [], .v (.c (.p (.sl (.int .u8)) v))), (2, [], .v (.c (.p (.sl (.int .u8)) x))), (7, [], .v (.c (.p (.sl (.int .u8)) ret20v.1))), (8, [], .v (.c (.p (.int .i64) ret20v.2))), (9, [], .v (.c (.p .bool ret32v.1))), (10, [], .v (.c (.p (.int .i64) ret32v.2))), (38, [], .tup [.c (.p .bool ret38v.1), .c (.p (.int .i64) ret38v.2)])], []⟩ : St)) (by kernel_rfl) rfl (by kernel_rfl) rfl (by kernel_rfl) Try.call35 (by kernel_rfl) (fun ret38v => by kernel_rfl) (fun e => by cases e) (fun hg => link35 ret20v.1 v _ h) (fun hg => noF hg) (fun ret38v h => ?_)
    have h : VC20 u v (fun (ret44v : Int × Int) => ((((((((!decide (ret20v.2 = (0 : Int))) || (!decide (ret32v.2 = (0 : Int)))) || (!decide (ret38v.2 = (0 : Int)))) || (!decide (ret44v.2 = (0 : Int)))) || (!ret32v.1)) || (!ret38v.1)) = false → InR ((u.length : Int) + (v.length : Int))) ∧ (((((((!decide (ret20v.2 = (0 : Int))) || (!decide (ret32v.2 = (0 : Int)))) || (!decide (ret38v.2 = (0 : Int)))) || (!decide (ret44v.2 = (0 : Int)))) || (!ret32v.1)) || (!ret38v.1)) = false → InR ((2 : Int) * (ret20v.1.length : Int))) ∧ (((((((!decide (ret20v.2 = (0 : Int))) || (!decide (ret32v.2 = (0 : Int)))) || (!decide (ret38v.2 = (0 : Int)))) || (!decide (ret44v.2 = (0 : Int)))) || (!ret32v.1)) || (!ret38v.1)) = false → InR (((u.length : Int) + (v.length : Int)) - ((2 : Int) * (ret20v.1.length : Int)))) ∧ (((((((((!decide (ret20v.2 = (0 : Int))) || (!decide (ret32v.2 = (0 : Int)))) || (!decide (ret38v.2 = (0 : Int)))) || (!decide (ret44v.2 = (0 : Int)))) || (!ret32v.1)) || (!ret38v.1)) || (decide ((((u.length : Int) + (v.length : Int)) - ((2 : Int) * (ret20v.1.length : Int))) < ret44v.1))) = true → K false) ∧ ((((((((!decide (ret20v.2 = (0 : Int))) || (!decide (ret32v.2 = (0 : Int)))) || (!decide (ret38v.2 = (0 : Int)))) || (!decide (ret44v.2 = (0 : Int)))) || (!ret32v.1)) || (!ret38v.1)) || (decide ((((u.length : Int) + (v.length : Int)) - ((2 : Int) * (ret20v.1.length : Int))) < ret44v.1))) = false → VC35 x u (fun (ret85v : Bool × Int) => VC35 x v (fun (ret91v : Bool × Int) => K (((((!decide (ret85v.2 = (0 : Int))) || (!decide (ret91v.2 = (0 : Int)))) || (!ret85v.1)) || (!ret91v.1)) || (decide ((x.length : Int) ≤ (ret20v.1.length : Int)))))))))) := h
    refine awl_runp 5 [0, 1, 2, 7, 8, 9, 10, 11, 12] [] (ob := (True ∧ True ∧ True ∧ True ∧ True ∧ True)) (st' := (⟨115, [(0, [], .v (.c (.p (.sl (.int .u8)) u))), (1, [], .v (.c (.p (.sl (.int .u8)) v))), (2, [], .v (.c (.p (.sl (.int .u8)) x))), (7, [], .v (.c (.p (.sl (.int .u8)) ret20v.1))), (8, [], .v (.c (.p (.int .i64) ret20v.2))), (9, [], .v (.c (.p .bool ret32v.1))), (10, [], .v (.c (.p (.int .i64) ret32v.2))), (11, [], .v (.c (.p .bool ret38v.1))), (12, [], .v (.c (.p (.int .i64) ret38v.2)))], []⟩ : St)) (by kernel_rfl) ⟨trivial, trivial, trivial, trivial, trivial, trivial⟩ ?_
    refine awl_nil ?_
    refine thenQ_n ?_
    refine aw_seq ?_
    refine aw_region ?_
    refine awl_runp 2 [0, 1, 2, 7, 8, 9, 10, 11, 12, 42, 43] [] (ob := (True ∧ True ∧ True)) (st' := (⟨115, [(0, [], .v (.c (.p (.sl (.int .u8)) u))), (1, [], .v (.c (.p (.sl (.int .u8)) v))), (2, [], .v (.c (.p (.sl (.int .u8)) x))), (7, [], .v (.c (.p (.sl (.int .u8)) ret20v.1))), (8, [], .v (.c (.p (.int .i64) ret20v.2))), (9, [], .v (.c (.p .bool ret32v.1))), (10, [], .v (.c (.p (.int .i64) ret32v.2))), (11, [], .v (.c (.p .bool ret38v.1))), (12, [], .v (.c (.p (.int .i64) ret38v.2))), (42, [], .v (.c (.p (.sl (.int .u8)) u))), (43, [], .v (.c (.p (.sl (.int .u8)) v)))], []⟩ : St)) (by kernel_rfl) ⟨trivial, trivial, trivial⟩ ?_
    refine awl_callk (p := []) (l := [toV1 (.sl (.int .u8)) u, toV1 (.sl (.int .u8)) v]) (cl := []) false [.d (.sl (.int .u8)), .d (.sl (.int .u8))] [0, 1, 2, 7, 8, 9, 10, 11, 12, 44] [] (fun (ret44v : Int × Int) => ((((((((!decide (ret20v.2 = (0 : Int))) || (!decide (ret32v.2 = (0 : Int)))) || (!decide (ret38v.2 = (0 : Int)))) || (!decide (ret44v.2 = (0 : Int)))) || (!ret32v.1)) || (!ret38v.1)) = false → InR ((u.length : Int) + (v.length : Int))) ∧ (((((((!decide (ret20v.2 = (0 : Int))) || (!decide (ret32v.2 = (0 : Int)))) || (!decide (ret38v.2 = (0 : Int)))) || (!decide (ret44v.2 = (0 : Int)))) || (!ret32v.1)) || (!ret38v.1)) = false → InR ((2 : Int) * (ret20v.1.length : Int))) ∧ (((((((!decide (ret20v.2 = (0 : Int))) || (!decide (ret32v.2 = (0 : Int)))) || (!decide (ret38v.2 = (0 : Int)))) || (!decide (ret44v.2 = (0 : Int)))) || (!ret32v.1)) || (!ret38v.1)) = false → InR (((u.length : Int) + (v.length : Int)) - ((2 : Int) * (ret20v.1.length : Int)))) ∧ (((((((((!decide (ret20v.2 = (0 : Int))) || (!decide (ret32v.2 = (0 : Int)))) || (!decide (ret38v.2 = (0 : Int)))) || (!decide (ret44v.2 = (0 : Int)))) || (!ret32v.1)) || (!ret38v.1)) || (decide ((((u.length : Int) + (v.length : Int)) - ((2 : Int) * (ret20v.1.length : Int))) < ret44v.1))) = true → K false) ∧ ((((((((!decide (ret20v.2 = (0 : Int))) || (!decide (ret32v.2 = (0 : Int)))) || (!decide (ret38v.2 = (0 : Int)))) || (!decide (ret44v.2 = (0 : Int)))) || (!ret32v.1)) || (!ret38v.1)) || (decide ((((u.length : Int) + (v.length : Int)) - ((2 : Int) * (ret20v.1.length : Int))) < ret44v.1))) = false → VC35 x u (fun (ret85v : Bool × Int) => VC35 x v (fun (ret91v : Bool × Int) => K (((((!decide (ret85v.2 = (0 : Int))) || (!decide (ret91v.2 = (0 : Int)))) || (!ret85v.1)) || (!ret91v.1)) || (decide ((x.length : Int) ≤ (ret20v.1.length : Int)))))))))) (fun ret44v => [toV1 (.int .i64) ret44v.1, toV1 (.int .i64) ret44v.2]) (fun ret44v => (⟨115, [(0, [], .v (.c (.p (.sl (.int .u8)) u))), (1, [], .v (.c (.p (.sl (.int .u8)) v))), (2, [], .v (.c (.p (.sl (.int .u8)) x))), (7, [], .v (.c (.p (.sl (.int .u8)) ret20v.1))), (8, [], .v (.c (.p (.int .i64) ret20v.2))), (9, [], .v (.c (.p .bool ret32v.1))), (10, [], .v (.c (.p (.int .i64) ret32v.2))), (11, [], .v (.c (.p .bool ret38v.1))), (12, [], .v (.c (.p (.int .i64) ret38v.2))), (44, [], .tup [.c (.p (.int .i64) ret44v.1), .c (.p (.int .i64) ret44v.2)])], []⟩ : St)) (by kernel_rfl) rfl (by kernel_rfl) rfl (by kernel_rfl) Try.call20 (by kernel_rfl) (fun ret44v => by kernel_rfl) (fun e => by cases e) (fun hg => link20 u v _ h) (fun hg => noF hg) (fun ret44v h => ?_)
    have h : ((((((((!decide (ret20v.2 = (0 : Int))) || (!decide (ret32v.2 = (0 : Int)))) || (!decide (ret38v.2 = (0 : Int)))) || (!decide (ret44v.2 = (0 : Int)))) || (!ret32v.1)) || (!ret38v.1)) = false → InR ((u.length : Int) + (v.length : Int))) ∧ (((((((!decide (ret20v.2 = (0 : Int))) || (!decide (ret32v.2 = (0 : Int)))) || (!decide (ret38v.2 = (0 : Int)))) || (!decide (ret44v.2 = (0 : Int)))) || (!ret32v.1)) || (!ret38v.1)) = false → InR ((2 : Int) * (ret20v.1.length : Int))) ∧ (((((((!decide (ret20v.2 = (0 : Int))) || (!decide (ret32v.2 = (0 : Int)))) || (!decide (ret38v.2 = (0 : Int)))) || (!decide (ret44v.2 = (0 : Int)))) || (!ret32v.1)) || (!ret38v.1)) = false → InR (((u.length : Int) + (v.length : Int)) - ((2 : Int) * (ret20v.1.length : Int)))) ∧ (((((((((!decide (ret20v.2 = (0 : Int))) || (!decide (ret32v.2 = (0 : Int)))) || (!decide (ret38v.2 = (0 : Int)))) || (!decide (ret44v.2 = (0 : Int)))) || (!ret32v.1)) || (!ret38v.1)) || (decide ((((u.length : Int) + (v.length : Int)) - ((2 : Int) * (ret20v.1.length : Int))) < ret44v.1))) = true → K false) ∧ ((((((((!decide (ret20v.2 = (0 : Int))) || (!decide (ret32v.2 = (0 : Int)))) || (!decide (ret38v.2 = (0 : Int)))) || (!decide (ret44v.2 = (0 : Int)))) || (!ret32v.1)) || (!ret38v.1)) || (decide ((((u.length : Int) + (v.length : Int)) - ((2 : Int) * (ret20v.1.length : Int))) < ret44v.1))) = false → VC35 x u (fun (ret85v : Bool × Int) => VC35 x v (fun (ret91v : Bool × Int) => K (((((!decide (ret85v.2 = (0 : Int))) || (!decide (ret91v.2 = (0 : Int)))) || (!ret85v.1)) || (!ret91v.1)) || (decide ((x.length : Int) ≤ (ret20v.1.length : Int))))))))) := h
    refine awl_runp 5 [0, 1, 2, 7, 8, 9, 10, 11, 12, 13, 14] [] (ob := (True ∧ True ∧ True ∧ True ∧ True ∧ True)) (st' := (⟨115, [(0, [], .v (.c (.p (.sl (.int .u8)) u))), (1, [], .v (.c (.p (.sl (.int .u8)) v))), (2, [], .v (.c (.p (.sl (.int .u8)) x))), (7, [], .v (.c (.p (.sl (.int .u8)) ret20v.1))), (8, [], .v (.c (.p (.int .i64) ret20v.2))), (9, [], .v (.c (.p .bool ret32v.1))), (10, [], .v (.c (.p (.int .i64) ret32v.2))), (11, [], .v (.c (.p .bool ret38v.1))), (12, [], .v (.c (.p (.int .i64) ret38v.2))), (13, [], .v (.c (.p (.int .i64) ret44v.1))), (14, [], .v (.c (.p (.int .i64) ret44v.2)))], []⟩ : St)) (by kernel_rfl) ⟨trivial, trivial, trivial, trivial, trivial, trivial⟩ ?_
    refine awl_nil ?_
    refine thenQ_n ?_
    refine aw_seq ?_
    refine aw_seq ?_
    refine aw_region ?_
    obtain ⟨o1, o2, o3, h⟩ := h
    refine awl_runp 35 [0, 1, 2, 7, 81] [] (ob := (True ∧ True ∧ True ∧ ((!decide (ret20v.2 = (0 : Int))) = false → True) ∧ ((!decide (ret20v.2 = (0 : Int))) = false → True) ∧ True ∧ True ∧ (((!decide (ret20v.2 = (0 : Int))) || (!decide (ret32v.2 = (0 : Int)))) = false → True) ∧ (((!decide (ret20v.2 = (0 : Int))) || (!decide (ret32v.2 = (0 : Int)))) = false → True) ∧ True ∧ True ∧ ((((!decide (ret20v.2 = (0 : Int))) || (!decide (ret32v.2 = (0 : Int)))) || (!decide (ret38v.2 = (0 : Int)))) = false → True) ∧ ((((!decide (ret20v.2 = (0 : Int))) || (!decide (ret32v.2 = (0 : Int)))) || (!decide (ret38v.2 = (0 : Int)))) = false → True) ∧ True ∧ True ∧ (((((!decide (ret20v.2 = (0 : Int))) || (!decide (ret32v.2 = (0 : Int)))) || (!decide (ret38v.2 = (0 : Int)))) || (!decide (ret44v.2 = (0 : Int)))) = false → True) ∧ (((((!decide (ret20v.2 = (0 : Int))) || (!decide (ret32v.2 = (0 : Int)))) || (!decide (ret38v.2 = (0 : Int)))) || (!decide (ret44v.2 = (0 : Int)))) = false → True) ∧ True ∧ True ∧ ((((((!decide (ret20v.2 = (0 : Int))) || (!decide (ret32v.2 = (0 : Int)))) || (!decide (ret38v.2 = (0 : Int)))) || (!decide (ret44v.2 = (0 : Int)))) || (!ret32v.1)) = false → True) ∧ ((((((!decide (ret20v.2 = (0 : Int))) || (!decide (ret32v.2 = (0 : Int)))) || (!decide (ret38v.2 = (0 : Int)))) || (!decide (ret44v.2 = (0 : Int)))) || (!ret32v.1)) = false → True) ∧ True ∧ True ∧ (((((((!decide (ret20v.2 = (0 : Int))) || (!decide (ret32v.2 = (0 : Int)))) || (!decide (ret38v.2 = (0 : Int)))) || (!decide (ret44v.2 = (0 : Int)))) || (!ret32v.1)) || (!ret38v.1)) = false → True) ∧ (((((((!decide (ret20v.2 = (0 : Int))) || (!decide (ret32v.2 = (0 : Int)))) || (!decide (ret38v.2 = (0 : Int)))) || (!decide (ret44v.2 = (0 : Int)))) || (!ret32v.1)) || (!ret38v.1)) = false → True) ∧ (((((((!decide (ret20v.2 = (0 : Int))) || (!decide (ret32v.2 = (0 : Int)))) || (!decide (ret38v.2 = (0 : Int)))) || (!decide (ret44v.2 = (0 : Int)))) || (!ret32v.1)) || (!ret38v.1)) = false → True) ∧ (((((((!decide (ret20v.2 = (0 : Int))) || (!decide (ret32v.2 = (0 : Int)))) || (!decide (ret38v.2 = (0 : Int)))) || (!decide (ret44v.2 = (0 : Int)))) || (!ret32v.1)) || (!ret38v.1)) = false → True) ∧ (((((((!decide (ret20v.2 = (0 : Int))) || (!decide (ret32v.2 = (0 : Int)))) || (!decide (ret38v.2 = (0 : Int)))) || (!decide (ret44v.2 = (0 : Int)))) || (!ret32v.1)) || (!ret38v.1)) = false → True) ∧ (((((((!decide (ret20v.2 = (0 : Int))) || (!decide (ret32v.2 = (0 : Int)))) || (!decide (ret38v.2 = (0 : Int)))) || (!decide (ret44v.2 = (0 : Int)))) || (!ret32v.1)) || (!ret38v.1)) = false → InR ((u.length : Int) + (v.length : Int))) ∧ (((((((!decide (ret20v.2 = (0 : Int))) || (!decide (ret32v.2 = (0 : Int)))) || (!decide (ret38v.2 = (0 : Int)))) || (!decide (ret44v.2 = (0 : Int)))) || (!ret32v.1)) || (!ret38v.1)) = false → True) ∧ (((((((!decide (ret20v.2 = (0 : Int))) || (!decide (ret32v.2 = (0 : Int)))) || (!decide (ret38v.2 = (0 : Int)))) || (!decide (ret44v.2 = (0 : Int)))) || (!ret32v.1)) || (!ret38v.1)) = false → True) ∧ (((((((!decide (ret20v.2 = (0 : Int))) || (!decide (ret32v.2 = (0 : Int)))) || (!decide (ret38v.2 = (0 : Int)))) || (!decide (ret44v.2 = (0 : Int)))) || (!ret32v.1)) || (!ret38v.1)) = false → InR ((2 : Int) * (ret20v.1.length : Int))) ∧ (((((((!decide (ret20v.2 = (0 : Int))) || (!decide (ret32v.2 = (0 : Int)))) || (!decide (ret38v.2 = (0 : Int)))) || (!decide (ret44v.2 = (0 : Int)))) || (!ret32v.1)) || (!ret38v.1)) = false → InR (((u.length : Int) + (v.length : Int)) - ((2 : Int) * (ret20v.1.length : Int)))) ∧ (((((((!decide (ret20v.2 = (0 : Int))) || (!decide (ret32v.2 = (0 : Int)))) || (!decide (ret38v.2 = (0 : Int)))) || (!decide (ret44v.2 = (0 : Int)))) || (!ret32v.1)) || (!ret38v.1)) = false → True) ∧ True ∧ True)) (st' := (⟨115, [(0, [], .v (.c (.p (.sl (.int .u8)) u))), (1, [], .v (.c (.p (.sl (.int .u8)) v))), (2, [], .v (.c (.p (.sl (.int .u8)) x))), (7, [], .v (.c (.p (.sl (.int .u8)) ret20v.1))), (81, [], .v (.c (.p .bool (((((((!decide (ret20v.2 = (0 : Int))) || (!decide (ret32v.2 = (0 : Int)))) || (!decide (ret38v.2 = (0 : Int)))) || (!decide (ret44v.2 = (0 : Int)))) || (!ret32v.1)) || (!ret38v.1)) || (decide ((((u.length : Int) + (v.length : Int)) - ((2 : Int) * (ret20v.1.length : Int))) < ret44v.1))))))], []⟩ : St)) (by kernel_rfl) ⟨trivial, trivial, trivial, (fun _ => trivial), (fun _ => trivial), trivial, trivial, (fun _ => trivial), (fun _ => trivial), trivial, trivial, (fun _ => trivial), (fun _ => trivial), trivial, trivial, (fun _ => trivial), (fun _ => trivial), trivial, trivial, (fun _ => trivial), (fun _ => trivial), trivial, trivial, (fun _ => trivial), (fun _ => trivial), (fun _ => trivial), (fun _ => trivial), (fun _ => trivial), o1, (fun _ => trivial), (fun _ => trivial), o2, o3, (fun _ => trivial), trivial, trivial⟩ ?_
    refine awl_nil ?_
    refine thenQ_n ?_
    refine aw_cond (b := (((((((!decide (ret20v.2 = (0 : Int))) || (!decide (ret32v.2 = (0 : Int)))) || (!decide (ret38v.2 = (0 : Int)))) || (!decide (ret44v.2 = (0 : Int)))) || (!ret32v.1)) || (!ret38v.1)) || (decide ((((u.length : Int) + (v.length : Int)) - ((2 : Int) * (ret20v.1.length : Int))) < ret44v.1)))) (by kernel_rfl) (fun hb => ?_) (fun hb => ?_)
    · have h := h.1 hb
      refine aw_seq ?_
      refine aw_region ?_
      refine awl_runp 1 [6] [] (ob := (True ∧ True)) (st' := (⟨115, [(6, [], .v (.c (.p .bool false)))], []⟩ : St)) (by kernel_rfl) ⟨trivial, trivial⟩ ?_
      refine awl_nil ?_
      refine thenQ_n ?_
      refine aw_ret ?_
      refine thenQ_r ?_
      exact retQ_r (σ := Bool) (R := (fun y => [toV1 .bool y])) (ob := (True ∧ True)) false (by kernel_rfl) ⟨trivial, trivial⟩ h
    · have h := h.2 hb
      refine aw_skip ?_
      refine thenQ_n ?_
      refine aw_seq ?_
      refine aw_region ?_
      refine awl_runp 2 [1, 2, 7, 83, 84] [] (ob := (True ∧ True ∧ True)) (st' := (⟨115, [(1, [], .v (.c (.p (.sl (.int .u8)) v))), (2, [], .v (.c (.p (.sl (.int .u8)) x))), (7, [], .v (.c (.p (.sl (.int .u8)) ret20v.1))), (83, [], .v (.c (.p (.sl (.int .u8)) x))), (84, [], .v (.c (.p (.sl (.int .u8)) u)))], []⟩ : St)) (by kernel_rfl) ⟨trivial, trivial, trivial⟩ ?_
      refine awl_callk (p := []) (l := [toV1 (.sl (.int .u8)) x, toV1 (.sl (.int .u8)) u]) (cl := []) false [.d (.sl (.int .u8)), .d (.sl (.int .u8))] [1, 2, 7, 85] [] (fun (ret85v : Bool × Int) => VC35 x v (fun (ret91v : Bool × Int) => K (((((!decide (ret85v.2 = (0 : Int))) || (!decide (ret91v.2 = (0 : Int)))) || (!ret85v.1)) || (!ret91v.1)) || (decide ((x.length : Int) ≤ (ret20v.1.length : Int)))))) (fun ret85v => [toV1 .bool ret85v.1, toV1 (.int .i64) ret85v.2]) (fun ret85v => (⟨115, [(1, [], .v (.c (.p (.sl (.int .u8)) v))), (2, [], .v (.c (.p (.sl (.int .u8)) x))), (7, [], .v (.c (.p (.sl (.int .u8)) ret20v.1))), (85, [], .tup [.c (.p .bool ret85v.1), .c (.p (.int .i64) ret85v.2)])], []⟩ : St)) (by kernel_rfl) rfl (by kernel_rfl) rfl (by kernel_rfl) Try.call35 (by kernel_rfl) (fun ret85v => by kernel_rfl) (fun e => by cases e) (fun hg => link35 x u _ h) (fun hg => noF hg) (fun ret85v h => ?_)
      have h : VC35 x v (fun (ret91v : Bool × Int) => K (((((!decide (ret85v.2 = (0 : Int))) || (!decide (ret91v.2 = (0 : Int)))) || (!ret85v.1)) || (!ret91v.1)) || (decide ((x.length : Int) ≤ (ret20v.1.length : Int))))) := h
      refine awl_runp 5 [1, 2, 7, 10, 15] [] (ob := (True ∧ True ∧ True ∧ True ∧ True ∧ True)) (st' := (⟨115, [(1, [], .v (.c (.p (.sl (.int .u8)) v))), (2, [], .v (.c (.p (.sl (.int .u8)) x))), (7, [], .v (.c (.p (.sl (.int .u8)) ret20v.1))), (10, [], .v (.c (.p (.int .i64) ret85v.2))), (15, [], .v (.c (.p .bool ret85v.1)))], []⟩ : St)) (by kernel_rfl) ⟨trivial, trivial, trivial, trivial, trivial, trivial⟩ ?_
      refine awl_nil ?_
      refine thenQ_n ?_
      refine aw_seq ?_
      refine aw_region ?_
      refine awl_runp 2 [2, 7, 10, 15, 89, 90] [] (ob := (True ∧ True ∧ True)) (st' := (⟨115, [(2, [], .v (.c (.p (.sl (.int .u8)) x))), (7, [], .v (.c (.p (.sl (.int .u8)) ret20v.1))), (10, [], .v (.c (.p (.int .i64) ret85v.2))), (15, [], .v (.c (.p .bool ret85v.1))), (89, [], .v (.c (.p (.sl (.int .u8)) x))), (90, [], .v (.c (.p (.sl (.int .u8)) v)))], []⟩ : St)) (by kernel_rfl) ⟨trivial, trivial, trivial⟩ ?_
      refine awl_callk (p := []) (l := [toV1 (.sl (.int .u8)) x, toV1 (.sl (.int .u8)) v]) (cl := []) false [.d (.sl (.int .u8)), .d (.sl (.int .u8))] [2, 7, 10, 15, 91] [] (fun (ret91v : Bool × Int) => K (((((!decide (ret85v.2 = (0 : Int))) || (!decide (ret91v.2 = (0 : Int)))) || (!ret85v.1)) || (!ret91v.1)) || (decide ((x.length : Int) ≤ (ret20v.1.length : Int))))) (fun ret91v => [toV1 .bool ret91v.1, toV1 (.int .i64) ret91v.2]) (fun ret91v => (⟨115, [(2, [], .v (.c (.p (.sl (.int .u8)) x))), (7, [], .v (.c (.p (.sl (.int .u8)) ret20v.1))), (10, [], .v (.c (.p (.int .i64) ret85v.2))), (15, [], .v (.c (.p .bool ret85v.1))), (91, [], .tup [.c (.p .bool ret91v.1), .c (.p (.int .i64) ret91v.2)])], []⟩ : St)) (by kernel_rfl) rfl (by kernel_rfl) rfl (by kernel_rfl) Try.call35 (by kernel_rfl) (fun ret91v => by kernel_rfl) (fun e => by cases e) (fun hg => link35 x v _ h) (fun hg => noF hg) (fun ret91v h => ?_)
      have h : K (((((!decide (ret85v.2 = (0 : Int))) || (!decide (ret91v.2 = (0 : Int)))) || (!ret85v.1)) || (!ret91v.1)) || (decide ((x.length : Int) ≤ (ret20v.1.length : Int)))) := h
      refine awl_runp 5 [2, 7, 10, 12, 15, 16] [] (ob := (True ∧ True ∧ True ∧ True ∧ True ∧ True)) (st' := (⟨115, [(2, [], .v (.c (.p (.sl (.int .u8)) x))), (7, [], .v (.c (.p (.sl (.int .u8)) ret20v.1))), (10, [], .v (.c (.p (.int .i64) ret85v.2))), (12, [], .v (.c (.p (.int .i64) ret91v.2))), (15, [], .v (.c (.p .bool ret85v.1))), (16, [], .v (.c (.p .bool ret91v.1)))], []⟩ : St)) (by kernel_rfl) ⟨trivial, trivial, trivial, trivial, trivial, trivial⟩ ?_
      refine awl_nil ?_
      refine thenQ_n ?_
      refine aw_seq ?_
      refine aw_region ?_
      refine awl_runp 22 [6] [] (ob := (True ∧ True ∧ True ∧ ((!decide (ret85v.2 = (0 : Int))) = false → True) ∧ ((!decide (ret85v.2 = (0 : Int))) = false → True) ∧ True ∧ True ∧ (((!decide (ret85v.2 = (0 : Int))) || (!decide (ret91v.2 = (0 : Int)))) = false → True) ∧ (((!decide (ret85v.2 = (0 : Int))) || (!decide (ret91v.2 = (0 : Int)))) = false → True) ∧ True ∧ True ∧ ((((!decide (ret85v.2 = (0 : Int))) || (!decide (ret91v.2 = (0 : Int)))) || (!ret85v.1)) = false → True) ∧ ((((!decide (ret85v.2 = (0 : Int))) || (!decide (ret91v.2 = (0 : Int)))) || (!ret85v.1)) = false → True) ∧ True ∧ True ∧ (((((!decide (ret85v.2 = (0 : Int))) || (!decide (ret91v.2 = (0 : Int)))) || (!ret85v.1)) || (!ret91v.1)) = false → True) ∧ (((((!decide (ret85v.2 = (0 : Int))) || (!decide (ret91v.2 = (0 : Int)))) || (!ret85v.1)) || (!ret91v.1)) = false → True) ∧ (((((!decide (ret85v.2 = (0 : Int))) || (!decide (ret91v.2 = (0 : Int)))) || (!ret85v.1)) || (!ret91v.1)) = false → True) ∧ (((((!decide (ret85v.2 = (0 : Int))) || (!decide (ret91v.2 = (0 : Int)))) || (!ret85v.1)) || (!ret91v.1)) = false → True) ∧ (((((!decide (ret85v.2 = (0 : Int))) || (!decide (ret91v.2 = (0 : Int)))) || (!ret85v.1)) || (!ret91v.1)) = false → True) ∧ True ∧ True ∧ True)) (st' := (⟨115, [(6, [], .v (.c (.p .bool (((((!decide (ret85v.2 = (0 : Int))) || (!decide (ret91v.2 = (0 : Int)))) || (!ret85v.1)) || (!ret91v.1)) || (decide ((x.length : Int) ≤ (ret20v.1.length : Int)))))))], []⟩ : St)) (by kernel_rfl) ⟨trivial, trivial, trivial, (fun _ => trivial), (fun _ => trivial), trivial, trivial, (fun _ => trivial), (fun _ => trivial), trivial, trivial, (fun _ => trivial), (fun _ => trivial), trivial, trivial, (fun _ => trivial), (fun _ => trivial), (fun _ => trivial), (fun _ => trivial), (fun _ => trivial), trivial, trivial, trivial⟩ ?_
      refine awl_nil ?_
      refine thenQ_n ?_
      refine aw_ret ?_
      exact retQ_r (σ := Bool) (R := (fun y => [toV1 .bool y])) (ob := (True ∧ True)) (((((!decide (ret85v.2 = (0 : Int))) || (!decide (ret91v.2 = (0 : Int)))) || (!ret85v.1)) || (!ret91v.1)) || (decide ((x.length : Int) ≤ (ret20v.1.length : Int)))) (by kernel_rfl) ⟨trivial, trivial⟩ h

end Dec
