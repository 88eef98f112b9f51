/-
  Printed by dec.py: of each function its plain demand, and that the demand gives the contract.
-/
import Derived.Test.YtjjlefbbdnfjiaaGenA
set_option linter.unusedVariables false
set_option linter.unusedSimpArgs false
set_option maxRecDepth 100000
namespace Dec
open Go Go.RowKit Go.Proofs

-- coppicer/power.Periods
def VC26_k1 (K : (List Int) × Int → Prop) (out : (List Int)) : Prop :=
  K (out, (0 : Int))

def VC26_k2 (p : Int) (X1 : Int × (List Int) → Prop) (out2 : (List Int)) : Prop :=
  (InR (p + (1 : Int)) ∧ X1 ((p + (1 : Int)), out2))

def VC26_l1 (w : (List Int)) (K : (List Int) × Int → Prop) (p : Int) (out : (List Int)) (X1 : Int × (List Int) → Prop) : Prop :=
  (((decide (p ≤ (w.length : Int))) = true → VC39 w p (fun (ret21v : Bool) => ((ret21v = true → (roomN (out.length + [p].length) ∧ VC26_k2 p X1 (out ++ [p]))) ∧ (ret21v = false → VC26_k2 p X1 out)))) ∧ ((decide (p ≤ (w.length : Int))) = false → VC26_k1 K out))

def VC26 (w : (List Int)) (K : (List Int) × Int → Prop) : Prop :=
  VC38 [w] (fun (ret9v : Int) => (((!decide (ret9v = (0 : Int))) = true → K (([] : (List Int)), ret9v)) ∧ ((!decide (ret9v = (0 : Int))) = false → Loop (σ := Int × (List Int)) (fun s X => VC26_l1 w K s.1 s.2 X) ((1 : Int), ([] : List Int)))))

set_option maxHeartbeats 4000000 in
theorem link26 (w : (List Int)) (K : (List Int) × Int → Prop) (h : VC26 w K) : ACalls Try.prog 26 [toV1 (.sl (.int .u8)) w] (fun res => ∃ y, res = (fun y => [toV1 (.sl (.int .i64)) y.1, toV1 (.int .i64) y.2]) y ∧ K y) := by
  refine acalls_of_aw [(.sl (.int .i64)), (.int .i64)] [2, 3] Try.func26 rfl rfl rfl ?_
  unfold VC26 at h
  refine aw_seq ?_
  refine aw_region ?_
  refine awl_runp 2 [0] [] (ob := (True ∧ True ∧ True)) (st' := (⟨27, [(0, [], .v (.c (.p (.sl (.int .u8)) w)))], []⟩ : St)) (by kernel_rfl) ⟨trivial, trivial, trivial⟩ ?_
  refine awl_nil ?_
  refine thenQ_n ?_
  refine aw_seq ?_
  refine aw_seq ?_
  refine aw_region ?_
  refine awl_runp 2 [0, 8] [8] (ob := (True ∧ True ∧ True)) (st' := (⟨27, [(0, [], .v (.c (.p (.sl (.int .u8)) w))), (8, [], .v (.c (.own 8)))], [(8, [], .arr 22 (.sl (.int .u8)) [w])]⟩ : St)) (by kernel_rfl) ⟨trivial, trivial, trivial⟩ ?_
  refine awl_callk (p := []) (l := [toV1 (.sl (.sl (.int .u8))) [w]]) true [(.sl (.sl (.int .u8)))] [0, 9] [] (fun (ret9v : Int) => (((!decide (ret9v = (0 : Int))) = true → K (([] : (List Int)), ret9v)) ∧ ((!decide (ret9v = (0 : Int))) = false → Loop (σ := Int × (List Int)) (fun s X => VC26_l1 w K s.1 s.2 X) ((1 : Int), ([] : List Int))))) (fun ret9v => [toV1 (.int .i64) ret9v]) (fun ret9v => (⟨27, [(0, [], .v (.c (.p (.sl (.int .u8)) w))), (9, [], .v (.c (.p (.int .i64) ret9v)))], []⟩ : St)) (by kernel_rfl) rfl (by kernel_rfl) rfl rfl Try.call38 (by kernel_rfl) (fun ret9v => by kernel_rfl) (fun _ _ => rfl) (fun hg => link38 [w] _ h) (fun hg => noF hg) (fun ret9v h => ?_)
  have h : (((!decide (ret9v = (0 : Int))) = true → K (([] : (List Int)), ret9v)) ∧ ((!decide (ret9v = (0 : Int))) = false → Loop (σ := Int × (List Int)) (fun s X => VC26_l1 w K s.1 s.2 X) ((1 : Int), ([] : List Int)))) := h
  refine awl_runp 1 [0, 4] [] (ob := (True ∧ True)) (st' := (⟨27, [(0, [], .v (.c (.p (.sl (.int .u8)) w))), (4, [], .v (.c (.p (.int .i64) ret9v)))], []⟩ : St)) (by kernel_rfl) ⟨trivial, trivial⟩ ?_
  refine awl_nil ?_
  refine thenQ_n ?_
  refine aw_seq ?_
  refine aw_region ?_
  refine awl_runp 2 [0, 4, 11] [] (ob := (True ∧ True ∧ True)) (st' := (⟨27, [(0, [], .v (.c (.p (.sl (.int .u8)) w))), (4, [], .v (.c (.p (.int .i64) ret9v))), (11, [], .v (.c (.p .bool (!decide (ret9v = (0 : Int))))))], []⟩ : St)) (by kernel_rfl) ⟨trivial, trivial, trivial⟩ ?_
  refine awl_nil ?_
  refine thenQ_n ?_
  refine aw_cond (b := (!decide (ret9v = (0 : Int)))) (by kernel_rfl) (fun hb => ?_) (fun hb => ?_)
  · have h := h.1 hb
    refine aw_seq ?_
    refine aw_region ?_
    refine awl_runp 3 [2, 3] [] (ob := (True ∧ True ∧ True ∧ True)) (st' := (⟨27, [(2, [], .v (.c (.nils))), (3, [], .v (.c (.p (.int .i64) ret9v)))], []⟩ : St)) (by kernel_rfl) ⟨trivial, trivial, trivial, trivial⟩ ?_
    refine awl_nil ?_
    refine thenQ_n ?_
    refine aw_ret ?_
    refine thenQ_r ?_
    exact retQ_r (σ := (List Int) × Int) (R := (fun y => [toV1 (.sl (.int .i64)) y.1, toV1 (.int .i64) y.2])) (([] : (List Int)), ret9v) (by kernel_rfl) h
  · have h := h.2 hb
    refine aw_skip ?_
    refine thenQ_n ?_
    refine aw_seq ?_
    refine aw_region ?_
    refine awl_runp 1 [0, 5] [] (ob := (True ∧ True)) (st' := (⟨27, [(0, [], .v (.c (.p (.sl (.int .u8)) w))), (5, [], .v (.c (.nils)))], []⟩ : St)) (by kernel_rfl) ⟨trivial, trivial⟩ ?_
    refine awl_nil ?_
    refine thenQ_n ?_
    refine aw_seq ?_
    refine aw_seq ?_
    refine aw_region ?_
    refine awl_runp 1 [0, 5, 6] [] (ob := (True ∧ True)) (st' := (⟨27, [(0, [], .v (.c (.p (.sl (.int .u8)) w))), (5, [], .v (.c (.nils))), (6, [], .v (.c (.p (.int .i64) (1 : Int))))], []⟩ : St)) (by kernel_rfl) ⟨trivial, trivial⟩ ?_
    refine awl_nil ?_
    refine thenQ_n ?_
    refine withJoin (σ := (List Int)) (fun s => (⟨27, [(5, [], .v (.c (.own 5005)))], [(5005, [], .arr 3 (.int .i64) s)]⟩ : St)) (fun s => VC26_k1 K s) (fun out h => ?_) (fun rest1 => ?_)
    · have h : VC26_k1 K out := h
      unfold VC26_k1 at h
      refine thenQ_n ?_
      refine aw_seq ?_
      refine aw_region ?_
      refine awl_runp 3 [2, 3] [5005] (ob := (True ∧ True ∧ True ∧ True)) (st' := (⟨27, [(2, [], .v (.c (.own 5005))), (3, [], .v (.c (.p (.int .i64) (0 : Int))))], [(5005, [], .arr 3 (.int .i64) out)]⟩ : St)) (by kernel_rfl) ⟨trivial, trivial, trivial, trivial⟩ ?_
      refine awl_nil ?_
      refine thenQ_n ?_
      refine aw_conv [.freeze 5005] (st' := (⟨27, [(2, [], .v (.c (.p (.sl (.int .i64)) out))), (3, [], .v (.c (.p (.int .i64) (0 : Int))))], []⟩ : St)) (by kernel_rfl) ?_
      refine aw_ret ?_
      exact retQ_r (σ := (List Int) × Int) (R := (fun y => [toV1 (.sl (.int .i64)) y.1, toV1 (.int .i64) y.2])) (out, (0 : Int)) (by kernel_rfl) h
    · refine aw_block ?_
      refine aw_conv [.nilOwn 5 5005 3 (.int .i64), .prune [0, 5, 6] [5005]] (st' := (⟨27, [(0, [], .v (.c (.p (.sl (.int .u8)) w))), (5, [], .v (.c (.own 5005))), (6, [], .v (.c (.p (.int .i64) (1 : Int))))], [(5005, [], .arr 3 (.int .i64) ([] : List Int))]⟩ : St)) (by kernel_rfl) ?_
      refine aw_loop (σ := Int × (List Int)) (fun s => (⟨27, [(0, [], .v (.c (.p (.sl (.int .u8)) w))), (5, [], .v (.c (.own 5005))), (6, [], .v (.c (.p (.int .i64) s.1)))], [(5005, [], .arr 3 (.int .i64) s.2)]⟩ : St)) (fun s X => VC26_l1 w K s.1 s.2 X) (s0 := ((1 : Int), ([] : List Int))) (fun s X1 h => ?_) h
      obtain ⟨p, out⟩ := s
      have h : VC26_l1 w K p out X1 := h
      unfold VC26_l1 at h
      refine aw_seq ?_
      refine aw_seq ?_
      refine aw_region ?_
      refine awl_runp 4 [0, 5, 6, 16] [5005] (ob := (True ∧ True ∧ True ∧ True ∧ True)) (st' := (⟨27, [(0, [], .v (.c (.p (.sl (.int .u8)) w))), (5, [], .v (.c (.own 5005))), (6, [], .v (.c (.p (.int .i64) p))), (16, [], .v (.c (.p .bool (decide (p ≤ (w.length : Int))))))], [(5005, [], .arr 3 (.int .i64) out)]⟩ : St)) (by kernel_rfl) ⟨trivial, trivial, trivial, trivial, trivial⟩ ?_
      refine awl_nil ?_
      refine thenQ_n ?_
      refine aw_cond (b := (decide (p ≤ (w.length : Int)))) (by kernel_rfl) (fun hb => ?_) (fun hb => ?_)
      · have h := h.1 hb
        refine aw_skip ?_
        refine thenQ_n ?_
        refine aw_seq ?_
        refine aw_block ?_
        refine aw_seq ?_
        refine aw_region ?_
        refine awl_runp 2 [0, 5, 6, 19, 20] [5005] (ob := (True ∧ True ∧ True)) (st' := (⟨27, [(0, [], .v (.c (.p (.sl (.int .u8)) w))), (5, [], .v (.c (.own 5005))), (6, [], .v (.c (.p (.int .i64) p))), (19, [], .v (.c (.p (.sl (.int .u8)) w))), (20, [], .v (.c (.p (.int .i64) p)))], [(5005, [], .arr 3 (.int .i64) out)]⟩ : St)) (by kernel_rfl) ⟨trivial, trivial, trivial⟩ ?_
        refine awl_callk (p := []) (l := [toV1 (.sl (.int .u8)) w, toV1 (.int .i64) p]) false [(.sl (.int .u8)), (.int .i64)] [0, 5, 6, 21] [5005] (fun (ret21v : Bool) => ((ret21v = true → (roomN (out.length + [p].length) ∧ VC26_k2 p X1 (out ++ [p]))) ∧ (ret21v = false → VC26_k2 p X1 out))) (fun ret21v => [toV1 .bool ret21v]) (fun ret21v => (⟨27, [(0, [], .v (.c (.p (.sl (.int .u8)) w))), (5, [], .v (.c (.own 5005))), (6, [], .v (.c (.p (.int .i64) p))), (21, [], .v (.c (.p .bool ret21v)))], [(5005, [], .arr 3 (.int .i64) out)]⟩ : St)) (by kernel_rfl) rfl (by kernel_rfl) rfl rfl Try.call39 (by kernel_rfl) (fun ret21v => by kernel_rfl) (fun e => by cases e) (fun hg => link39 w p _ h) (fun hg => noF hg) (fun ret21v h => ?_)
        have h : ((ret21v = true → (roomN (out.length + [p].length) ∧ VC26_k2 p X1 (out ++ [p]))) ∧ (ret21v = false → VC26_k2 p X1 out)) := h
        refine awl_nil ?_
        refine thenQ_n ?_
        refine withJoin (σ := (List Int)) (fun s => (⟨27, [(0, [], .v (.c (.p (.sl (.int .u8)) w))), (5, [], .v (.c (.own 25))), (6, [], .v (.c (.p (.int .i64) p)))], [(25, [], .arr 3 (.int .i64) s)]⟩ : St)) (fun s => VC26_k2 p X1 s) (fun out2 h => ?_) (fun rest2 => ?_)
        · have h : VC26_k2 p X1 out2 := h
          unfold VC26_k2 at h
          refine blockQ_n ?_
          refine thenQ_n ?_
          refine aw_region ?_
          obtain ⟨o1, h⟩ := h
          refine awl_runp 3 [0, 5, 6] [25] (ob := (True ∧ InR (p + (1 : Int)) ∧ True ∧ True)) (st' := (⟨27, [(0, [], .v (.c (.p (.sl (.int .u8)) w))), (5, [], .v (.c (.own 25))), (6, [], .v (.c (.p (.int .i64) (p + (1 : Int)))))], [(25, [], .arr 3 (.int .i64) out2)]⟩ : St)) (by kernel_rfl) ⟨trivial, o1, trivial, trivial⟩ ?_
          refine awl_conv [.ren 25 20025, .ren 20025 5005] (st' := (⟨27, [(0, [], .v (.c (.p (.sl (.int .u8)) w))), (5, [], .v (.c (.own 5005))), (6, [], .v (.c (.p (.int .i64) (p + (1 : Int)))))], [(5005, [], .arr 3 (.int .i64) out2)]⟩ : St)) (by kernel_rfl) ?_
          refine awl_nil ?_
          exact thenQ_n ⟨((p + (1 : Int)), out2), rfl, h⟩
        · refine aw_cond (b := ret21v) (by kernel_rfl) (fun hb => ?_) (fun hb => ?_)
          · have h := h.1 hb
            refine aw_region ?_
            obtain ⟨o1, h⟩ := h
            refine awl_runp 5 [0, 5, 6] [25] (ob := (True ∧ True ∧ True ∧ roomN (out.length + [p].length) ∧ True ∧ True)) (st' := (⟨27, [(0, [], .v (.c (.p (.sl (.int .u8)) w))), (5, [], .v (.c (.own 25))), (6, [], .v (.c (.p (.int .i64) p)))], [(25, [], .arr 3 (.int .i64) (out ++ [p]))]⟩ : St)) (by kernel_rfl) ⟨trivial, trivial, trivial, o1, trivial, trivial⟩ ?_
            refine awl_nil ?_
            exact rest2 (out ++ [p]) h
          · have h := h.2 hb
            refine aw_conv [.prune [0, 5, 6] [5005], .ren 5005 25005, .ren 25005 25] (st' := (⟨27, [(0, [], .v (.c (.p (.sl (.int .u8)) w))), (5, [], .v (.c (.own 25))), (6, [], .v (.c (.p (.int .i64) p)))], [(25, [], .arr 3 (.int .i64) out)]⟩ : St)) (by kernel_rfl) ?_
            refine aw_skip ?_
            exact rest2 out h
      · have h := h.2 hb
        refine aw_conv [.prune [5] [5005]] (st' := (⟨27, [(5, [], .v (.c (.own 5005)))], [(5005, [], .arr 3 (.int .i64) out)]⟩ : St)) (by kernel_rfl) ?_
        refine aw_exit ?_
        refine thenQ_x ?_
        refine thenQ_x ?_
        refine blockQ_hit ?_
        exact rest1 out h

-- coppicer/border.lengths
def VC42_k1 (K : (List Int) → Prop) (out : (List Int)) : Prop :=
  K out

def VC42_k3 (i : Int) (out : (List Int)) (X1 : Int × Int × (List Int) → Prop) (k3 : Int) : Prop :=
  (inIdx i out.length ∧ (InR (i + (1 : Int)) ∧ X1 (k3, (i + (1 : Int)), (out.set ((i).toNat) k3))))

def VC42_k2 (w : (List Int)) (i : Int) (out : (List Int)) (X1 : Int × Int × (List Int) → Prop) (k2 : Int) : Prop :=
  (inIdx k2 w.length ∧ inIdx i w.length ∧ (((decide ((w.getD (k2).toNat (0 : Int)) = (w.getD (i).toNat (0 : Int)))) = true → (InR (k2 + (1 : Int)) ∧ VC42_k3 i out X1 (k2 + (1 : Int)))) ∧ ((decide ((w.getD (k2).toNat (0 : Int)) = (w.getD (i).toNat (0 : Int)))) = false → VC42_k3 i out X1 k2)))

def VC42_l2 (w : (List Int)) (i : Int) (out : (List Int)) (X1 : Int × Int × (List Int) → Prop) (k2 : Int) (X2 : Int → Prop) : Prop :=
  (((decide ((0 : Int) < k2)) = true → inIdx k2 w.length) ∧ ((decide ((0 : Int) < k2)) = true → inIdx i w.length) ∧ ((((decide ((0 : Int) < k2)) && (!decide ((w.getD (k2).toNat (0 : Int)) = (w.getD (i).toNat (0 : Int))))) = true → (InR (k2 - (1 : Int)) ∧ inIdx (k2 - (1 : Int)) out.length ∧ X2 (out.getD (((k2 - (1 : Int))).toNat) (0 : Int)))) ∧ (((decide ((0 : Int) < k2)) && (!decide ((w.getD (k2).toNat (0 : Int)) = (w.getD (i).toNat (0 : Int))))) = false → VC42_k2 w i out X1 k2)))

def VC42_l1 (w : (List Int)) (K : (List Int) → Prop) (k : Int) (i : Int) (out : (List Int)) (X1 : Int × Int × (List Int) → Prop) : Prop :=
  (((decide (i < (w.length : Int))) = true → Loop (σ := Int) (fun s X => VC42_l2 w i out X1 s X) k) ∧ ((decide (i < (w.length : Int))) = false → VC42_k1 K out))

def VC42 (w : (List Int)) (K : (List Int) → Prop) : Prop :=
  (room (w.length : Int) ∧ Loop (σ := Int × Int × (List Int)) (fun s X => VC42_l1 w K s.1 s.2.1 s.2.2 X) ((0 : Int), (1 : Int), (List.replicate ((w.length : Int)).toNat (0 : Int))))

set_option maxHeartbeats 4000000 in
theorem link42 (w : (List Int)) (K : (List Int) → Prop) (h : VC42 w K) : ACalls Try.prog 42 [toV1 (.sl (.int .u8)) w] (fun res => ∃ y, res = (fun y => [toV1 (.sl (.int .i64)) y]) y ∧ K y) := by
  refine acalls_of_aw [(.sl (.int .i64))] [2] Try.func42 rfl rfl rfl ?_
  unfold VC42 at h
  refine aw_seq ?_
  refine aw_region ?_
  refine awl_runp 1 [0] [] (ob := (True ∧ True)) (st' := (⟨49, [(0, [], .v (.c (.p (.sl (.int .u8)) w)))], []⟩ : St)) (by kernel_rfl) ⟨trivial, trivial⟩ ?_
  refine awl_nil ?_
  refine thenQ_n ?_
  refine aw_seq ?_
  refine aw_region ?_
  obtain ⟨o1, h⟩ := h
  refine awl_runp 4 [0, 3] [8] (ob := (True ∧ True ∧ room (w.length : Int) ∧ True ∧ True)) (st' := (⟨49, [(0, [], .v (.c (.p (.sl (.int .u8)) w))), (3, [], .v (.c (.own 8)))], [(8, [], .arr 3 (.int .i64) (List.replicate ((w.length : Int)).toNat (0 : Int)))]⟩ : St)) (by kernel_rfl) ⟨trivial, trivial, o1, trivial, trivial⟩ ?_
  refine awl_nil ?_
  refine thenQ_n ?_
  refine aw_seq ?_
  refine aw_region ?_
  refine awl_runp 1 [0, 3, 4] [8] (ob := (True ∧ True)) (st' := (⟨49, [(0, [], .v (.c (.p (.sl (.int .u8)) w))), (3, [], .v (.c (.own 8))), (4, [], .v (.c (.p (.int .i64) (0 : Int))))], [(8, [], .arr 3 (.int .i64) (List.replicate ((w.length : Int)).toNat (0 : Int)))]⟩ : St)) (by kernel_rfl) ⟨trivial, trivial⟩ ?_
  refine awl_nil ?_
  refine thenQ_n ?_
  refine aw_seq ?_
  refine aw_seq ?_
  refine aw_region ?_
  refine awl_runp 1 [0, 3, 4, 5] [8] (ob := (True ∧ True)) (st' := (⟨49, [(0, [], .v (.c (.p (.sl (.int .u8)) w))), (3, [], .v (.c (.own 8))), (4, [], .v (.c (.p (.int .i64) (0 : Int)))), (5, [], .v (.c (.p (.int .i64) (1 : Int))))], [(8, [], .arr 3 (.int .i64) (List.replicate ((w.length : Int)).toNat (0 : Int)))]⟩ : St)) (by kernel_rfl) ⟨trivial, trivial⟩ ?_
  refine awl_nil ?_
  refine thenQ_n ?_
  refine withJoin (σ := (List Int)) (fun s => (⟨49, [(3, [], .v (.c (.own 8)))], [(8, [], .arr 3 (.int .i64) s)]⟩ : St)) (fun s => VC42_k1 K s) (fun out h => ?_) (fun rest1 => ?_)
  · have h : VC42_k1 K out := h
    unfold VC42_k1 at h
    refine thenQ_n ?_
    refine aw_seq ?_
    refine aw_region ?_
    refine awl_runp 2 [2] [8] (ob := (True ∧ True ∧ True)) (st' := (⟨49, [(2, [], .v (.c (.own 8)))], [(8, [], .arr 3 (.int .i64) out)]⟩ : St)) (by kernel_rfl) ⟨trivial, trivial, trivial⟩ ?_
    refine awl_nil ?_
    refine thenQ_n ?_
    refine aw_conv [.freeze 8] (st' := (⟨49, [(2, [], .v (.c (.p (.sl (.int .i64)) out)))], []⟩ : St)) (by kernel_rfl) ?_
    refine aw_ret ?_
    exact retQ_r (σ := (List Int)) (R := (fun y => [toV1 (.sl (.int .i64)) y])) out (by kernel_rfl) h
  · refine aw_block ?_
    refine aw_loop (σ := Int × Int × (List Int)) (fun s => (⟨49, [(0, [], .v (.c (.p (.sl (.int .u8)) w))), (3, [], .v (.c (.own 8))), (4, [], .v (.c (.p (.int .i64) s.1))), (5, [], .v (.c (.p (.int .i64) s.2.1)))], [(8, [], .arr 3 (.int .i64) s.2.2)]⟩ : St)) (fun s X => VC42_l1 w K s.1 s.2.1 s.2.2 X) (s0 := ((0 : Int), (1 : Int), (List.replicate ((w.length : Int)).toNat (0 : Int)))) (fun s X1 h => ?_) h
    obtain ⟨k, i, out⟩ := s
    have h : VC42_l1 w K k i out X1 := h
    unfold VC42_l1 at h
    refine aw_seq ?_
    refine aw_seq ?_
    refine aw_region ?_
    refine awl_runp 4 [0, 3, 4, 5, 12] [8] (ob := (True ∧ True ∧ True ∧ True ∧ True)) (st' := (⟨49, [(0, [], .v (.c (.p (.sl (.int .u8)) w))), (3, [], .v (.c (.own 8))), (4, [], .v (.c (.p (.int .i64) k))), (5, [], .v (.c (.p (.int .i64) i))), (12, [], .v (.c (.p .bool (decide (i < (w.length : Int))))))], [(8, [], .arr 3 (.int .i64) out)]⟩ : St)) (by kernel_rfl) ⟨trivial, trivial, trivial, trivial, trivial⟩ ?_
    refine awl_nil ?_
    refine thenQ_n ?_
    refine aw_cond (b := (decide (i < (w.length : Int)))) (by kernel_rfl) (fun hb => ?_) (fun hb => ?_)
    · have h := h.1 hb
      refine aw_skip ?_
      refine thenQ_n ?_
      refine aw_seq ?_
      refine aw_block ?_
      refine aw_seq ?_
      refine withJoin (σ := Int) (fun s => (⟨49, [(0, [], .v (.c (.p (.sl (.int .u8)) w))), (3, [], .v (.c (.own 8))), (4, [], .v (.c (.p (.int .i64) s))), (5, [], .v (.c (.p (.int .i64) i)))], [(8, [], .arr 3 (.int .i64) out)]⟩ : St)) (fun s => VC42_k2 w i out X1 s) (fun k2 h => ?_) (fun rest3 => ?_)
      · have h : VC42_k2 w i out X1 k2 := h
        unfold VC42_k2 at h
        refine thenQ_n ?_
        refine aw_seq ?_
        refine aw_seq ?_
        refine awd_begin (by kernel_rfl) ?_
        obtain ⟨o1, o2, h⟩ := h
        refine awd_runp (by kernel_rfl) [0, 1, 2, 3, 4, 5, 6, 7, 8] [0, 3, 4, 5, 41] [8] (ob := (True ∧ True ∧ inIdx k2 w.length ∧ True ∧ True ∧ True ∧ inIdx i w.length ∧ True ∧ True ∧ True)) (done' := [8, 7, 6, 5, 4, 3, 2, 1, 0]) (st' := (⟨49, [(0, [], .v (.c (.p (.sl (.int .u8)) w))), (3, [], .v (.c (.own 8))), (4, [], .v (.c (.p (.int .i64) k2))), (5, [], .v (.c (.p (.int .i64) i))), (41, [], .v (.c (.p .bool (decide ((w.getD (k2).toNat (0 : Int)) = (w.getD (i).toNat (0 : Int)))))))], [(8, [], .arr 3 (.int .i64) out)]⟩ : St)) (by kernel_rfl) ⟨trivial, trivial, o1, trivial, trivial, trivial, o2, trivial, trivial, trivial⟩ ?_
        refine awd_done (by kernel_rfl) ?_
        refine thenQ_n ?_
        refine withJoin (σ := Int) (fun s => (⟨49, [(0, [], .v (.c (.p (.sl (.int .u8)) w))), (3, [], .v (.c (.own 8))), (4, [], .v (.c (.p (.int .i64) s))), (5, [], .v (.c (.p (.int .i64) i)))], [(8, [], .arr 3 (.int .i64) out)]⟩ : St)) (fun s => VC42_k3 i out X1 s) (fun k3 h => ?_) (fun rest2 => ?_)
        · have h : VC42_k3 i out X1 k3 := h
          unfold VC42_k3 at h
          refine thenQ_n ?_
          refine aw_region ?_
          obtain ⟨o1, h⟩ := h
          refine awl_runp 5 [0, 3, 4, 5] [8] (ob := (True ∧ True ∧ True ∧ inIdx i out.length ∧ True ∧ True)) (st' := (⟨49, [(0, [], .v (.c (.p (.sl (.int .u8)) w))), (3, [], .v (.c (.own 8))), (4, [], .v (.c (.p (.int .i64) k3))), (5, [], .v (.c (.p (.int .i64) i)))], [(8, [], .arr 3 (.int .i64) (out.set ((i).toNat) k3))]⟩ : St)) (by kernel_rfl) ⟨trivial, trivial, trivial, o1, trivial, trivial⟩ ?_
          refine awl_nil ?_
          refine blockQ_n ?_
          refine thenQ_n ?_
          refine aw_region ?_
          obtain ⟨o1, h⟩ := h
          refine awl_runp 3 [0, 3, 4, 5] [8] (ob := (True ∧ InR (i + (1 : Int)) ∧ True ∧ True)) (st' := (⟨49, [(0, [], .v (.c (.p (.sl (.int .u8)) w))), (3, [], .v (.c (.own 8))), (4, [], .v (.c (.p (.int .i64) k3))), (5, [], .v (.c (.p (.int .i64) (i + (1 : Int)))))], [(8, [], .arr 3 (.int .i64) (out.set ((i).toNat) k3))]⟩ : St)) (by kernel_rfl) ⟨trivial, o1, trivial, trivial⟩ ?_
          refine awl_nil ?_
          exact thenQ_n ⟨(k3, (i + (1 : Int)), (out.set ((i).toNat) k3)), rfl, h⟩
        · refine aw_cond (b := (decide ((w.getD (k2).toNat (0 : Int)) = (w.getD (i).toNat (0 : Int))))) (by kernel_rfl) (fun hb => ?_) (fun hb => ?_)
          · have h := h.1 hb
            refine aw_region ?_
            obtain ⟨o1, h⟩ := h
            refine awl_runp 3 [0, 3, 4, 5] [8] (ob := (True ∧ InR (k2 + (1 : Int)) ∧ True ∧ True)) (st' := (⟨49, [(0, [], .v (.c (.p (.sl (.int .u8)) w))), (3, [], .v (.c (.own 8))), (4, [], .v (.c (.p (.int .i64) (k2 + (1 : Int))))), (5, [], .v (.c (.p (.int .i64) i)))], [(8, [], .arr 3 (.int .i64) out)]⟩ : St)) (by kernel_rfl) ⟨trivial, o1, trivial, trivial⟩ ?_
            refine awl_nil ?_
            exact rest2 (k2 + (1 : Int)) h
          · have h := h.2 hb
            refine aw_conv [.prune [0, 3, 4, 5] [8]] (st' := (⟨49, [(0, [], .v (.c (.p (.sl (.int .u8)) w))), (3, [], .v (.c (.own 8))), (4, [], .v (.c (.p (.int .i64) k2))), (5, [], .v (.c (.p (.int .i64) i)))], [(8, [], .arr 3 (.int .i64) out)]⟩ : St)) (by kernel_rfl) ?_
            refine aw_skip ?_
            exact rest2 k2 h
      · refine aw_block ?_
        refine aw_conv [.prune [0, 3, 4, 5] [8]] (st' := (⟨49, [(0, [], .v (.c (.p (.sl (.int .u8)) w))), (3, [], .v (.c (.own 8))), (4, [], .v (.c (.p (.int .i64) k))), (5, [], .v (.c (.p (.int .i64) i)))], [(8, [], .arr 3 (.int .i64) out)]⟩ : St)) (by kernel_rfl) ?_
        refine aw_loop (σ := Int) (fun s => (⟨49, [(0, [], .v (.c (.p (.sl (.int .u8)) w))), (3, [], .v (.c (.own 8))), (4, [], .v (.c (.p (.int .i64) s))), (5, [], .v (.c (.p (.int .i64) i)))], [(8, [], .arr 3 (.int .i64) out)]⟩ : St)) (fun s X => VC42_l2 w i out X1 s X) (s0 := k) (fun k2 X2 h => ?_) h
        have h : VC42_l2 w i out X1 k2 X2 := h
        unfold VC42_l2 at h
        refine aw_seq ?_
        refine aw_seq ?_
        refine awd_begin (by kernel_rfl) ?_
        obtain ⟨o1, o2, h⟩ := h
        refine awd_runp (by kernel_rfl) [0, 1, 2, 3, 4, 5, 6, 7, 8, 9, 10, 11, 12] [0, 3, 4, 5, 27] [8] (ob := (True ∧ True ∧ True ∧ ((decide ((0 : Int) < k2)) = true → True) ∧ ((decide ((0 : Int) < k2)) = true → True) ∧ ((decide ((0 : Int) < k2)) = true → inIdx k2 w.length) ∧ ((decide ((0 : Int) < k2)) = true → True) ∧ ((decide ((0 : Int) < k2)) = true → True) ∧ ((decide ((0 : Int) < k2)) = true → True) ∧ ((decide ((0 : Int) < k2)) = true → inIdx i w.length) ∧ ((decide ((0 : Int) < k2)) = true → True) ∧ ((decide ((0 : Int) < k2)) = true → True) ∧ True ∧ True)) (done' := [12, 11, 10, 9, 8, 7, 6, 5, 4, 3, 2, 1, 0]) (st' := (⟨49, [(0, [], .v (.c (.p (.sl (.int .u8)) w))), (3, [], .v (.c (.own 8))), (4, [], .v (.c (.p (.int .i64) k2))), (5, [], .v (.c (.p (.int .i64) i))), (27, [], .v (.c (.p .bool ((decide ((0 : Int) < k2)) && (!decide ((w.getD (k2).toNat (0 : Int)) = (w.getD (i).toNat (0 : Int))))))))], [(8, [], .arr 3 (.int .i64) out)]⟩ : St)) (by kernel_rfl) ⟨trivial, trivial, trivial, (fun _ => trivial), (fun _ => trivial), o1, (fun _ => trivial), (fun _ => trivial), (fun _ => trivial), o2, (fun _ => trivial), (fun _ => trivial), trivial, trivial⟩ ?_
        refine awd_done (by kernel_rfl) ?_
        refine thenQ_n ?_
        refine aw_cond (b := ((decide ((0 : Int) < k2)) && (!decide ((w.getD (k2).toNat (0 : Int)) = (w.getD (i).toNat (0 : Int)))))) (by kernel_rfl) (fun hb => ?_) (fun hb => ?_)
        · have h := h.1 hb
          refine aw_skip ?_
          refine thenQ_n ?_
          refine aw_block ?_
          refine aw_region ?_
          obtain ⟨o1, o2, h⟩ := h
          refine awl_runp 6 [0, 3, 4, 5] [8] (ob := (True ∧ True ∧ InR (k2 - (1 : Int)) ∧ inIdx (k2 - (1 : Int)) out.length ∧ True ∧ True ∧ True)) (st' := (⟨49, [(0, [], .v (.c (.p (.sl (.int .u8)) w))), (3, [], .v (.c (.own 8))), (4, [], .v (.c (.p (.int .i64) (out.getD (((k2 - (1 : Int))).toNat) (0 : Int))))), (5, [], .v (.c (.p (.int .i64) i)))], [(8, [], .arr 3 (.int .i64) out)]⟩ : St)) (by kernel_rfl) ⟨trivial, trivial, o1, o2, trivial, trivial, trivial⟩ ?_
          refine awl_nil ?_
          refine blockQ_n ?_
          exact thenQ_n ⟨(out.getD (((k2 - (1 : Int))).toNat) (0 : Int)), rfl, h⟩
        · have h := h.2 hb
          refine aw_conv [.prune [0, 3, 4, 5] [8]] (st' := (⟨49, [(0, [], .v (.c (.p (.sl (.int .u8)) w))), (3, [], .v (.c (.own 8))), (4, [], .v (.c (.p (.int .i64) k2))), (5, [], .v (.c (.p (.int .i64) i)))], [(8, [], .arr 3 (.int .i64) out)]⟩ : St)) (by kernel_rfl) ?_
          refine aw_exit ?_
          refine thenQ_x ?_
          refine thenQ_x ?_
          refine blockQ_hit ?_
          exact rest3 k2 h
    · have h := h.2 hb
      refine aw_conv [.prune [3] [8]] (st' := (⟨49, [(3, [], .v (.c (.own 8)))], [(8, [], .arr 3 (.int .i64) out)]⟩ : St)) (by kernel_rfl) ?_
      refine aw_exit ?_
      refine thenQ_x ?_
      refine thenQ_x ?_
      refine blockQ_hit ?_
      exact rest1 out h

-- coppicer/border.Borders
def VC25 (w : (List Int)) (K : (List Int) × Int → Prop) : Prop :=
  VC38 [w] (fun (ret7v : Int) => (((!decide (ret7v = (0 : Int))) = true → K (([] : (List Int)), ret7v)) ∧ ((!decide (ret7v = (0 : Int))) = false → VC42 w (fun (ret12v : (List Int)) => K (ret12v, (0 : Int))))))

set_option maxHeartbeats 4000000 in
theorem link25 (w : (List Int)) (K : (List Int) × Int → Prop) (h : VC25 w K) : ACalls Try.prog 25 [toV1 (.sl (.int .u8)) w] (fun res => ∃ y, res = (fun y => [toV1 (.sl (.int .i64)) y.1, toV1 (.int .i64) y.2]) y ∧ K y) := by
  refine acalls_of_aw [(.sl (.int .i64)), (.int .i64)] [2, 3] Try.func25 rfl rfl rfl ?_
  unfold VC25 at h
  refine aw_seq ?_
  refine aw_region ?_
  refine awl_runp 2 [0] [] (ob := (True ∧ True ∧ True)) (st' := (⟨13, [(0, [], .v (.c (.p (.sl (.int .u8)) w)))], []⟩ : St)) (by kernel_rfl) ⟨trivial, trivial, trivial⟩ ?_
  refine awl_nil ?_
  refine thenQ_n ?_
  refine aw_seq ?_
  refine aw_seq ?_
  refine aw_region ?_
  refine awl_runp 2 [0, 6] [6] (ob := (True ∧ True ∧ True)) (st' := (⟨13, [(0, [], .v (.c (.p (.sl (.int .u8)) w))), (6, [], .v (.c (.own 6)))], [(6, [], .arr 22 (.sl (.int .u8)) [w])]⟩ : St)) (by kernel_rfl) ⟨trivial, trivial, trivial⟩ ?_
  refine awl_callk (p := []) (l := [toV1 (.sl (.sl (.int .u8))) [w]]) true [(.sl (.sl (.int .u8)))] [0, 7] [] (fun (ret7v : Int) => (((!decide (ret7v = (0 : Int))) = true → K (([] : (List Int)), ret7v)) ∧ ((!decide (ret7v = (0 : Int))) = false → VC42 w (fun (ret12v : (List Int)) => K (ret12v, (0 : Int)))))) (fun ret7v => [toV1 (.int .i64) ret7v]) (fun ret7v => (⟨13, [(0, [], .v (.c (.p (.sl (.int .u8)) w))), (7, [], .v (.c (.p (.int .i64) ret7v)))], []⟩ : St)) (by kernel_rfl) rfl (by kernel_rfl) rfl rfl Try.call38 (by kernel_rfl) (fun ret7v => by kernel_rfl) (fun _ _ => rfl) (fun hg => link38 [w] _ h) (fun hg => noF hg) (fun ret7v h => ?_)
  have h : (((!decide (ret7v = (0 : Int))) = true → K (([] : (List Int)), ret7v)) ∧ ((!decide (ret7v = (0 : Int))) = false → VC42 w (fun (ret12v : (List Int)) => K (ret12v, (0 : Int))))) := h
  refine awl_runp 1 [0, 4] [] (ob := (True ∧ True)) (st' := (⟨13, [(0, [], .v (.c (.p (.sl (.int .u8)) w))), (4, [], .v (.c (.p (.int .i64) ret7v)))], []⟩ : St)) (by kernel_rfl) ⟨trivial, trivial⟩ ?_
  refine awl_nil ?_
  refine thenQ_n ?_
  refine aw_seq ?_
  refine aw_region ?_
  refine awl_runp 2 [0, 4, 9] [] (ob := (True ∧ True ∧ True)) (st' := (⟨13, [(0, [], .v (.c (.p (.sl (.int .u8)) w))), (4, [], .v (.c (.p (.int .i64) ret7v))), (9, [], .v (.c (.p .bool (!decide (ret7v = (0 : Int))))))], []⟩ : St)) (by kernel_rfl) ⟨trivial, trivial, trivial⟩ ?_
  refine awl_nil ?_
  refine thenQ_n ?_
  refine aw_cond (b := (!decide (ret7v = (0 : Int)))) (by kernel_rfl) (fun hb => ?_) (fun hb => ?_)
  · have h := h.1 hb
    refine aw_seq ?_
    refine aw_region ?_
    refine awl_runp 3 [2, 3] [] (ob := (True ∧ True ∧ True ∧ True)) (st' := (⟨13, [(2, [], .v (.c (.nils))), (3, [], .v (.c (.p (.int .i64) ret7v)))], []⟩ : St)) (by kernel_rfl) ⟨trivial, trivial, trivial, trivial⟩ ?_
    refine awl_nil ?_
    refine thenQ_n ?_
    refine aw_ret ?_
    refine thenQ_r ?_
    exact retQ_r (σ := (List Int) × Int) (R := (fun y => [toV1 (.sl (.int .i64)) y.1, toV1 (.int .i64) y.2])) (([] : (List Int)), ret7v) (by kernel_rfl) h
  · have h := h.2 hb
    refine aw_skip ?_
    refine thenQ_n ?_
    refine aw_seq ?_
    refine aw_region ?_
    refine awl_runp 1 [11] [] (ob := (True ∧ True)) (st' := (⟨13, [(11, [], .v (.c (.p (.sl (.int .u8)) w)))], []⟩ : St)) (by kernel_rfl) ⟨trivial, trivial⟩ ?_
    refine awl_callk (p := []) (l := [toV1 (.sl (.int .u8)) w]) false [(.sl (.int .u8))] [12] [] (fun (ret12v : (List Int)) => K (ret12v, (0 : Int))) (fun ret12v => [toV1 (.sl (.int .i64)) ret12v]) (fun ret12v => (⟨13, [(12, [], .v (.c (.p (.sl (.int .i64)) ret12v)))], []⟩ : St)) (by kernel_rfl) rfl (by kernel_rfl) rfl rfl Try.call42 (by kernel_rfl) (fun ret12v => by kernel_rfl) (fun e => by cases e) (fun hg => link42 w _ h) (fun hg => noF hg) (fun ret12v h => ?_)
    have h : K (ret12v, (0 : Int)) := h
    refine awl_runp 2 [2, 3] [] (ob := (True ∧ True ∧ True)) (st' := (⟨13, [(2, [], .v (.c (.p (.sl (.int .i64)) ret12v))), (3, [], .v (.c (.p (.int .i64) (0 : Int))))], []⟩ : St)) (by kernel_rfl) ⟨trivial, trivial, trivial⟩ ?_
    refine awl_nil ?_
    refine thenQ_n ?_
    refine aw_ret ?_
    exact retQ_r (σ := (List Int) × Int) (R := (fun y => [toV1 (.sl (.int .i64)) y.1, toV1 (.int .i64) y.2])) (ret12v, (0 : Int)) (by kernel_rfl) h

-- coppicer/coppicerkeep.BorderPeriods
def VC8_k1 (K : Bool → Prop) : Prop :=
  K true

def VC8_l1 (w : (List Int)) (K : Bool → Prop) (ret10v : (List Int) × Int) (i : Int) (X1 : Int → Prop) : Prop :=
  (((decide (i ≤ (w.length : Int))) = true → ((0 ≤ i ∧ i ≤ (w.length : Int)) ∧ VC26 (w.take (i).toNat) (fun (ret37v : (List Int) × Int) => ((((!decide (ret37v.2 = (0 : Int))) || (decide ((ret37v.1.length : Int) = (0 : Int)))) = false → inIdx (0 : Int) ret37v.1.length) ∧ (((!decide (ret37v.2 = (0 : Int))) || (decide ((ret37v.1.length : Int) = (0 : Int)))) = false → InR (i - (1 : Int))) ∧ (((!decide (ret37v.2 = (0 : Int))) || (decide ((ret37v.1.length : Int) = (0 : Int)))) = false → inIdx (i - (1 : Int)) ret10v.1.length) ∧ (((!decide (ret37v.2 = (0 : Int))) || (decide ((ret37v.1.length : Int) = (0 : Int)))) = false → InR (i - (ret10v.1.getD ((i - (1 : Int))).toNat (0 : Int)))) ∧ (((((!decide (ret37v.2 = (0 : Int))) || (decide ((ret37v.1.length : Int) = (0 : Int)))) || (!decide ((ret37v.1.getD ((0 : Int)).toNat (0 : Int)) = (i - (ret10v.1.getD ((i - (1 : Int))).toNat (0 : Int)))))) = true → K false) ∧ ((((!decide (ret37v.2 = (0 : Int))) || (decide ((ret37v.1.length : Int) = (0 : Int)))) || (!decide ((ret37v.1.getD ((0 : Int)).toNat (0 : Int)) = (i - (ret10v.1.getD ((i - (1 : Int))).toNat (0 : Int)))))) = false → (InR (i + (1 : Int)) ∧ X1 (i + (1 : Int))))))))) ∧ ((decide (i ≤ (w.length : Int))) = false → VC8_k1 K))

def VC8 (w : (List Int)) (K : Bool → Prop) : Prop :=
  VC25 w (fun (ret10v : (List Int) × Int) => VC16 [w] (fun (ret15v : Bool) => ((ret15v = true → K (!decide (ret10v.2 = (0 : Int)))) ∧ (ret15v = false → ((((!decide (ret10v.2 = (0 : Int))) || (!decide ((ret10v.1.length : Int) = (w.length : Int)))) = true → K false) ∧ (((!decide (ret10v.2 = (0 : Int))) || (!decide ((ret10v.1.length : Int) = (w.length : Int)))) = false → Loop (σ := Int) (fun s X => VC8_l1 w K ret10v s X) (1 : Int)))))))

set_option maxHeartbeats 4000000 in
theorem link8 (w : (List Int)) (K : Bool → Prop) (h : VC8 w K) : ACalls Try.prog 8 [toV1 (.sl (.int .u8)) w] (fun res => ∃ y, res = (fun y => [toV1 .bool y]) y ∧ K y) := by
  refine acalls_of_aw [.bool] [2] Try.func8 rfl rfl rfl ?_
  unfold VC8 at h
  refine aw_seq ?_
  refine aw_region ?_
  refine awl_runp 1 [0] [] (ob := (True ∧ True)) (st' := (⟨60, [(0, [], .v (.c (.p (.sl (.int .u8)) w)))], []⟩ : St)) (by kernel_rfl) ⟨trivial, trivial⟩ ?_
  refine awl_nil ?_
  refine thenQ_n ?_
  refine aw_seq ?_
  refine aw_region ?_
  refine awl_runp 1 [0, 9] [] (ob := (True ∧ True)) (st' := (⟨60, [(0, [], .v (.c (.p (.sl (.int .u8)) w))), (9, [], .v (.c (.p (.sl (.int .u8)) w)))], []⟩ : St)) (by kernel_rfl) ⟨trivial, trivial⟩ ?_
  refine awl_callk (p := []) (l := [toV1 (.sl (.int .u8)) w]) false [(.sl (.int .u8))] [0, 10] [] (fun (ret10v : (List Int) × Int) => VC16 [w] (fun (ret15v : Bool) => ((ret15v = true → K (!decide (ret10v.2 = (0 : Int)))) ∧ (ret15v = false → ((((!decide (ret10v.2 = (0 : Int))) || (!decide ((ret10v.1.length : Int) = (w.length : Int)))) = true → K false) ∧ (((!decide (ret10v.2 = (0 : Int))) || (!decide ((ret10v.1.length : Int) = (w.length : Int)))) = false → Loop (σ := Int) (fun s X => VC8_l1 w K ret10v s X) (1 : Int))))))) (fun ret10v => [toV1 (.sl (.int .i64)) ret10v.1, toV1 (.int .i64) ret10v.2]) (fun ret10v => (⟨60, [(0, [], .v (.c (.p (.sl (.int .u8)) w))), (10, [], .tup [.c (.p (.sl (.int .i64)) ret10v.1), .c (.p (.int .i64) ret10v.2)])], []⟩ : St)) (by kernel_rfl) rfl (by kernel_rfl) rfl rfl Try.call25 (by kernel_rfl) (fun ret10v => by kernel_rfl) (fun e => by cases e) (fun hg => link25 w _ h) (fun hg => noF hg) (fun ret10v h => ?_)
  have h : VC16 [w] (fun (ret15v : Bool) => ((ret15v = true → K (!decide (ret10v.2 = (0 : Int)))) ∧ (ret15v = false → ((((!decide (ret10v.2 = (0 : Int))) || (!decide ((ret10v.1.length : Int) = (w.length : Int)))) = true → K false) ∧ (((!decide (ret10v.2 = (0 : Int))) || (!decide ((ret10v.1.length : Int) = (w.length : Int)))) = false → Loop (σ := Int) (fun s X => VC8_l1 w K ret10v s X) (1 : Int)))))) := h
  refine awl_runp 5 [0, 3, 4] [] (ob := (True ∧ True ∧ True ∧ True ∧ True ∧ True)) (st' := (⟨60, [(0, [], .v (.c (.p (.sl (.int .u8)) w))), (3, [], .v (.c (.p (.sl (.int .i64)) ret10v.1))), (4, [], .v (.c (.p (.int .i64) ret10v.2)))], []⟩ : St)) (by kernel_rfl) ⟨trivial, trivial, trivial, trivial, trivial, trivial⟩ ?_
  refine awl_nil ?_
  refine thenQ_n ?_
  refine aw_seq ?_
  refine aw_seq ?_
  refine aw_region ?_
  refine awl_runp 2 [0, 3, 4, 14] [14] (ob := (True ∧ True ∧ True)) (st' := (⟨60, [(0, [], .v (.c (.p (.sl (.int .u8)) w))), (3, [], .v (.c (.p (.sl (.int .i64)) ret10v.1))), (4, [], .v (.c (.p (.int .i64) ret10v.2))), (14, [], .v (.c (.own 14)))], [(14, [], .arr 22 (.sl (.int .u8)) [w])]⟩ : St)) (by kernel_rfl) ⟨trivial, trivial, trivial⟩ ?_
  refine awl_callk (p := []) (l := [toV1 (.sl (.sl (.int .u8))) [w]]) true [(.sl (.sl (.int .u8)))] [0, 3, 4, 15] [] (fun (ret15v : Bool) => ((ret15v = true → K (!decide (ret10v.2 = (0 : Int)))) ∧ (ret15v = false → ((((!decide (ret10v.2 = (0 : Int))) || (!decide ((ret10v.1.length : Int) = (w.length : Int)))) = true → K false) ∧ (((!decide (ret10v.2 = (0 : Int))) || (!decide ((ret10v.1.length : Int) = (w.length : Int)))) = false → Loop (σ := Int) (fun s X => VC8_l1 w K ret10v s X) (1 : Int)))))) (fun ret15v => [toV1 .bool ret15v]) (fun ret15v => (⟨60, [(0, [], .v (.c (.p (.sl (.int .u8)) w))), (3, [], .v (.c (.p (.sl (.int .i64)) ret10v.1))), (4, [], .v (.c (.p (.int .i64) ret10v.2))), (15, [], .v (.c (.p .bool ret15v)))], []⟩ : St)) (by kernel_rfl) rfl (by kernel_rfl) rfl rfl Try.call16 (by kernel_rfl) (fun ret15v => by kernel_rfl) (fun _ _ => rfl) (fun hg => link16 [w] _ h) (fun hg => noF hg) (fun ret15v h => ?_)
  have h : ((ret15v = true → K (!decide (ret10v.2 = (0 : Int)))) ∧ (ret15v = false → ((((!decide (ret10v.2 = (0 : Int))) || (!decide ((ret10v.1.length : Int) = (w.length : Int)))) = true → K false) ∧ (((!decide (ret10v.2 = (0 : Int))) || (!decide ((ret10v.1.length : Int) = (w.length : Int)))) = false → Loop (σ := Int) (fun s X => VC8_l1 w K ret10v s X) (1 : Int))))) := h
  refine awl_nil ?_
  refine thenQ_n ?_
  refine aw_cond (b := ret15v) (by kernel_rfl) (fun hb => ?_) (fun hb => ?_)
  · have h := h.1 hb
    refine aw_seq ?_
    refine aw_region ?_
    refine awl_runp 3 [2] [] (ob := (True ∧ True ∧ True ∧ True)) (st' := (⟨60, [(2, [], .v (.c (.p .bool (!decide (ret10v.2 = (0 : Int))))))], []⟩ : St)) (by kernel_rfl) ⟨trivial, trivial, trivial, trivial⟩ ?_
    refine awl_nil ?_
    refine thenQ_n ?_
    refine aw_ret ?_
    refine thenQ_r ?_
    exact retQ_r (σ := Bool) (R := (fun y => [toV1 .bool y])) (!decide (ret10v.2 = (0 : Int))) (by kernel_rfl) h
  · have h := h.2 hb
    refine aw_skip ?_
    refine thenQ_n ?_
    refine aw_seq ?_
    refine aw_seq ?_
    refine aw_region ?_
    refine awl_runp 9 [0, 3, 26] [] (ob := (True ∧ True ∧ True ∧ ((!decide (ret10v.2 = (0 : Int))) = false → True) ∧ ((!decide (ret10v.2 = (0 : Int))) = false → True) ∧ ((!decide (ret10v.2 = (0 : Int))) = false → True) ∧ ((!decide (ret10v.2 = (0 : Int))) = false → True) ∧ ((!decide (ret10v.2 = (0 : Int))) = false → True) ∧ True ∧ True)) (st' := (⟨60, [(0, [], .v (.c (.p (.sl (.int .u8)) w))), (3, [], .v (.c (.p (.sl (.int .i64)) ret10v.1))), (26, [], .v (.c (.p .bool ((!decide (ret10v.2 = (0 : Int))) || (!decide ((ret10v.1.length : Int) = (w.length : Int)))))))], []⟩ : St)) (by kernel_rfl) ⟨trivial, trivial, trivial, (fun _ => trivial), (fun _ => trivial), (fun _ => trivial), (fun _ => trivial), (fun _ => trivial), trivial, trivial⟩ ?_
    refine awl_nil ?_
    refine thenQ_n ?_
    refine aw_cond (b := ((!decide (ret10v.2 = (0 : Int))) || (!decide ((ret10v.1.length : Int) = (w.length : Int))))) (by kernel_rfl) (fun hb => ?_) (fun hb => ?_)
    · have h := h.1 hb
      refine aw_seq ?_
      refine aw_region ?_
      refine awl_runp 1 [2] [] (ob := (True ∧ True)) (st' := (⟨60, [(2, [], .v (.c (.p .bool false)))], []⟩ : St)) (by kernel_rfl) ⟨trivial, trivial⟩ ?_
      refine awl_nil ?_
      refine thenQ_n ?_
      refine aw_ret ?_
      refine thenQ_r ?_
      exact retQ_r (σ := Bool) (R := (fun y => [toV1 .bool y])) false (by kernel_rfl) h
    · have h := h.2 hb
      refine aw_skip ?_
      refine thenQ_n ?_
      refine aw_seq ?_
      refine aw_seq ?_
      refine aw_region ?_
      refine awl_runp 1 [0, 3, 5] [] (ob := (True ∧ True)) (st' := (⟨60, [(0, [], .v (.c (.p (.sl (.int .u8)) w))), (3, [], .v (.c (.p (.sl (.int .i64)) ret10v.1))), (5, [], .v (.c (.p (.int .i64) (1 : Int))))], []⟩ : St)) (by kernel_rfl) ⟨trivial, trivial⟩ ?_
      refine awl_nil ?_
      refine thenQ_n ?_
      refine withJoin (σ := Unit) (fun s => (⟨60, [], []⟩ : St)) (fun s => VC8_k1 K) (fun s h => ?_) (fun rest1 => ?_)
      · have h : VC8_k1 K := h
        unfold VC8_k1 at h
        refine thenQ_n ?_
        refine aw_seq ?_
        refine aw_region ?_
        refine awl_runp 1 [2] [] (ob := (True ∧ True)) (st' := (⟨60, [(2, [], .v (.c (.p .bool true)))], []⟩ : St)) (by kernel_rfl) ⟨trivial, trivial⟩ ?_
        refine awl_nil ?_
        refine thenQ_n ?_
        refine aw_ret ?_
        exact retQ_r (σ := Bool) (R := (fun y => [toV1 .bool y])) true (by kernel_rfl) h
      · refine aw_block ?_
        refine aw_loop (σ := Int) (fun s => (⟨60, [(0, [], .v (.c (.p (.sl (.int .u8)) w))), (3, [], .v (.c (.p (.sl (.int .i64)) ret10v.1))), (5, [], .v (.c (.p (.int .i64) s)))], []⟩ : St)) (fun s X => VC8_l1 w K ret10v s X) (s0 := (1 : Int)) (fun i X1 h => ?_) h
        have h : VC8_l1 w K ret10v i X1 := h
        unfold VC8_l1 at h
        refine aw_seq ?_
        refine aw_seq ?_
        refine aw_region ?_
        refine awl_runp 4 [0, 3, 5, 30] [] (ob := (True ∧ True ∧ True ∧ True ∧ True)) (st' := (⟨60, [(0, [], .v (.c (.p (.sl (.int .u8)) w))), (3, [], .v (.c (.p (.sl (.int .i64)) ret10v.1))), (5, [], .v (.c (.p (.int .i64) i))), (30, [], .v (.c (.p .bool (decide (i ≤ (w.length : Int))))))], []⟩ : St)) (by kernel_rfl) ⟨trivial, trivial, trivial, trivial, trivial⟩ ?_
        refine awl_nil ?_
        refine thenQ_n ?_
        refine aw_cond (b := (decide (i ≤ (w.length : Int)))) (by kernel_rfl) (fun hb => ?_) (fun hb => ?_)
        · have h := h.1 hb
          refine aw_skip ?_
          refine thenQ_n ?_
          refine aw_seq ?_
          refine aw_block ?_
          refine aw_seq ?_
          refine aw_region ?_
          obtain ⟨o1, h⟩ := h
          refine awl_runp 3 [0, 3, 5, 36] [] (ob := (True ∧ True ∧ (0 ≤ i ∧ i ≤ (w.length : Int)) ∧ True)) (st' := (⟨60, [(0, [], .v (.c (.p (.sl (.int .u8)) w))), (3, [], .v (.c (.p (.sl (.int .i64)) ret10v.1))), (5, [], .v (.c (.p (.int .i64) i))), (36, [], .v (.c (.p (.sl (.int .u8)) (w.take (i).toNat))))], []⟩ : St)) (by kernel_rfl) ⟨trivial, trivial, o1, trivial⟩ ?_
          refine awl_callk (p := []) (l := [toV1 (.sl (.int .u8)) (w.take (i).toNat)]) false [(.sl (.int .u8))] [0, 3, 5, 37] [] (fun (ret37v : (List Int) × Int) => ((((!decide (ret37v.2 = (0 : Int))) || (decide ((ret37v.1.length : Int) = (0 : Int)))) = false → inIdx (0 : Int) ret37v.1.length) ∧ (((!decide (ret37v.2 = (0 : Int))) || (decide ((ret37v.1.length : Int) = (0 : Int)))) = false → InR (i - (1 : Int))) ∧ (((!decide (ret37v.2 = (0 : Int))) || (decide ((ret37v.1.length : Int) = (0 : Int)))) = false → inIdx (i - (1 : Int)) ret10v.1.length) ∧ (((!decide (ret37v.2 = (0 : Int))) || (decide ((ret37v.1.length : Int) = (0 : Int)))) = false → InR (i - (ret10v.1.getD ((i - (1 : Int))).toNat (0 : Int)))) ∧ (((((!decide (ret37v.2 = (0 : Int))) || (decide ((ret37v.1.length : Int) = (0 : Int)))) || (!decide ((ret37v.1.getD ((0 : Int)).toNat (0 : Int)) = (i - (ret10v.1.getD ((i - (1 : Int))).toNat (0 : Int)))))) = true → K false) ∧ ((((!decide (ret37v.2 = (0 : Int))) || (decide ((ret37v.1.length : Int) = (0 : Int)))) || (!decide ((ret37v.1.getD ((0 : Int)).toNat (0 : Int)) = (i - (ret10v.1.getD ((i - (1 : Int))).toNat (0 : Int)))))) = false → (InR (i + (1 : Int)) ∧ X1 (i + (1 : Int))))))) (fun ret37v => [toV1 (.sl (.int .i64)) ret37v.1, toV1 (.int .i64) ret37v.2]) (fun ret37v => (⟨60, [(0, [], .v (.c (.p (.sl (.int .u8)) w))), (3, [], .v (.c (.p (.sl (.int .i64)) ret10v.1))), (5, [], .v (.c (.p (.int .i64) i))), (37, [], .tup [.c (.p (.sl (.int .i64)) ret37v.1), .c (.p (.int .i64) ret37v.2)])], []⟩ : St)) (by kernel_rfl) rfl (by kernel_rfl) rfl rfl Try.call26 (by kernel_rfl) (fun ret37v => by kernel_rfl) (fun e => by cases e) (fun hg => link26 (w.take (i).toNat) _ h) (fun hg => noF hg) (fun ret37v h => ?_)
          have h : ((((!decide (ret37v.2 = (0 : Int))) || (decide ((ret37v.1.length : Int) = (0 : Int)))) = false → inIdx (0 : Int) ret37v.1.length) ∧ (((!decide (ret37v.2 = (0 : Int))) || (decide ((ret37v.1.length : Int) = (0 : Int)))) = false → InR (i - (1 : Int))) ∧ (((!decide (ret37v.2 = (0 : Int))) || (decide ((ret37v.1.length : Int) = (0 : Int)))) = false → inIdx (i - (1 : Int)) ret10v.1.length) ∧ (((!decide (ret37v.2 = (0 : Int))) || (decide ((ret37v.1.length : Int) = (0 : Int)))) = false → InR (i - (ret10v.1.getD ((i - (1 : Int))).toNat (0 : Int)))) ∧ (((((!decide (ret37v.2 = (0 : Int))) || (decide ((ret37v.1.length : Int) = (0 : Int)))) || (!decide ((ret37v.1.getD ((0 : Int)).toNat (0 : Int)) = (i - (ret10v.1.getD ((i - (1 : Int))).toNat (0 : Int)))))) = true → K false) ∧ ((((!decide (ret37v.2 = (0 : Int))) || (decide ((ret37v.1.length : Int) = (0 : Int)))) || (!decide ((ret37v.1.getD ((0 : Int)).toNat (0 : Int)) = (i - (ret10v.1.getD ((i - (1 : Int))).toNat (0 : Int)))))) = false → (InR (i + (1 : Int)) ∧ X1 (i + (1 : Int)))))) := h
          refine awl_runp 5 [0, 3, 5, 6, 7] [] (ob := (True ∧ True ∧ True ∧ True ∧ True ∧ True)) (st' := (⟨60, [(0, [], .v (.c (.p (.sl (.int .u8)) w))), (3, [], .v (.c (.p (.sl (.int .i64)) ret10v.1))), (5, [], .v (.c (.p (.int .i64) i))), (6, [], .v (.c (.p (.sl (.int .i64)) ret37v.1))), (7, [], .v (.c (.p (.int .i64) ret37v.2)))], []⟩ : St)) (by kernel_rfl) ⟨trivial, trivial, trivial, trivial, trivial, trivial⟩ ?_
          refine awl_nil ?_
          refine thenQ_n ?_
          refine aw_seq ?_
          refine awd_begin (by kernel_rfl) ?_
          obtain ⟨o1, o2, o3, o4, h⟩ := h
          refine awd_runp (by kernel_rfl) [0, 1, 2, 3, 4, 5, 6, 7, 8, 9, 10, 11, 12, 13, 14, 15, 16, 17, 18, 19] [0, 3, 5, 59] [] (ob := (True ∧ True ∧ True ∧ ((!decide (ret37v.2 = (0 : Int))) = false → True) ∧ ((!decide (ret37v.2 = (0 : Int))) = false → True) ∧ ((!decide (ret37v.2 = (0 : Int))) = false → True) ∧ True ∧ True ∧ (((!decide (ret37v.2 = (0 : Int))) || (decide ((ret37v.1.length : Int) = (0 : Int)))) = false → True) ∧ (((!decide (ret37v.2 = (0 : Int))) || (decide ((ret37v.1.length : Int) = (0 : Int)))) = false → inIdx (0 : Int) ret37v.1.length) ∧ (((!decide (ret37v.2 = (0 : Int))) || (decide ((ret37v.1.length : Int) = (0 : Int)))) = false → True) ∧ (((!decide (ret37v.2 = (0 : Int))) || (decide ((ret37v.1.length : Int) = (0 : Int)))) = false → True) ∧ (((!decide (ret37v.2 = (0 : Int))) || (decide ((ret37v.1.length : Int) = (0 : Int)))) = false → True) ∧ (((!decide (ret37v.2 = (0 : Int))) || (decide ((ret37v.1.length : Int) = (0 : Int)))) = false → True) ∧ (((!decide (ret37v.2 = (0 : Int))) || (decide ((ret37v.1.length : Int) = (0 : Int)))) = false → InR (i - (1 : Int))) ∧ (((!decide (ret37v.2 = (0 : Int))) || (decide ((ret37v.1.length : Int) = (0 : Int)))) = false → inIdx (i - (1 : Int)) ret10v.1.length) ∧ (((!decide (ret37v.2 = (0 : Int))) || (decide ((ret37v.1.length : Int) = (0 : Int)))) = false → True) ∧ (((!decide (ret37v.2 = (0 : Int))) || (decide ((ret37v.1.length : Int) = (0 : Int)))) = false → InR (i - (ret10v.1.getD ((i - (1 : Int))).toNat (0 : Int)))) ∧ (((!decide (ret37v.2 = (0 : Int))) || (decide ((ret37v.1.length : Int) = (0 : Int)))) = false → True) ∧ True ∧ True)) (done' := [19, 18, 17, 16, 15, 14, 13, 12, 11, 10, 9, 8, 7, 6, 5, 4, 3, 2, 1, 0]) (st' := (⟨60, [(0, [], .v (.c (.p (.sl (.int .u8)) w))), (3, [], .v (.c (.p (.sl (.int .i64)) ret10v.1))), (5, [], .v (.c (.p (.int .i64) i))), (59, [], .v (.c (.p .bool (((!decide (ret37v.2 = (0 : Int))) || (decide ((ret37v.1.length : Int) = (0 : Int)))) || (!decide ((ret37v.1.getD ((0 : Int)).toNat (0 : Int)) = (i - (ret10v.1.getD ((i - (1 : Int))).toNat (0 : Int)))))))))], []⟩ : St)) (by kernel_rfl) ⟨trivial, trivial, trivial, (fun _ => trivial), (fun _ => trivial), (fun _ => trivial), trivial, trivial, (fun _ => trivial), o1, (fun _ => trivial), (fun _ => trivial), (fun _ => trivial), (fun _ => trivial), o2, o3, (fun _ => trivial), o4, (fun _ => trivial), trivial, trivial⟩ ?_
          refine awd_done (by kernel_rfl) ?_
          refine thenQ_n ?_
          refine aw_cond (b := (((!decide (ret37v.2 = (0 : Int))) || (decide ((ret37v.1.length : Int) = (0 : Int)))) || (!decide ((ret37v.1.getD ((0 : Int)).toNat (0 : Int)) = (i - (ret10v.1.getD ((i - (1 : Int))).toNat (0 : Int))))))) (by kernel_rfl) (fun hb => ?_) (fun hb => ?_)
          · have h := h.1 hb
            refine aw_seq ?_
            refine aw_region ?_
            refine awl_runp 1 [2] [] (ob := (True ∧ True)) (st' := (⟨60, [(2, [], .v (.c (.p .bool false)))], []⟩ : St)) (by kernel_rfl) ⟨trivial, trivial⟩ ?_
            refine awl_nil ?_
            refine thenQ_n ?_
            refine aw_ret ?_
            refine blockQ_r ?_
            refine thenQ_r ?_
            refine thenQ_r ?_
            refine blockQ_r ?_
            refine thenQ_r ?_
            exact retQ_r (σ := Bool) (R := (fun y => [toV1 .bool y])) false (by kernel_rfl) h
          · have h := h.2 hb
            refine aw_skip ?_
            refine blockQ_n ?_
            refine thenQ_n ?_
            refine aw_region ?_
            obtain ⟨o1, h⟩ := h
            refine awl_runp 3 [0, 3, 5] [] (ob := (True ∧ InR (i + (1 : Int)) ∧ True ∧ True)) (st' := (⟨60, [(0, [], .v (.c (.p (.sl (.int .u8)) w))), (3, [], .v (.c (.p (.sl (.int .i64)) ret10v.1))), (5, [], .v (.c (.p (.int .i64) (i + (1 : Int)))))], []⟩ : St)) (by kernel_rfl) ⟨trivial, o1, trivial, trivial⟩ ?_
            refine awl_nil ?_
            exact thenQ_n ⟨(i + (1 : Int)), rfl, h⟩
        · have h := h.2 hb
          refine aw_conv [.prune [] []] (st' := (⟨60, [], []⟩ : St)) (by kernel_rfl) ?_
          refine aw_exit ?_
          refine thenQ_x ?_
          refine thenQ_x ?_
          refine blockQ_hit ?_
          exact rest1 () h

end Dec
