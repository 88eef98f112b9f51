/-
  Printed by dec2.py: of each function its plain demand, and that the demand gives the contract.
-/
import Derived.Test.YtfamoglamihdfaaProg
import Derived.Test.YtfamoglamihdfaaDecT
set_option linter.unusedVariables false
set_option linter.unusedSimpArgs false
set_option maxRecDepth 100000
namespace Dec
open Go Go.RowKit Go.Proofs

-- coppicer/store.Sum
def VC14_k1 (K : (List Int) → Prop) (x : Int) (yv : Int) : Prop :=
  ((0 ≤ x ∧ 0 ≤ (8 : Int)) ∧ (0 ≤ yv ∧ 0 ≤ (8 : Int)) ∧ K [(IntKind.wrap .u8 x), (IntKind.wrap .u8 (bShr .i64 x (8 : Int))), (IntKind.wrap .u8 yv), (IntKind.wrap .u8 (bShr .i64 yv (8 : Int)))])

def VC14_l1 (b : (List Int)) (K : (List Int) → Prop) (x : Int) (yv : Int) (v9 : Int) (X1 : Int × Int × Int → Prop) : Prop :=
  (((decide (v9 < (b.length : Int))) = true → (inIdx v9 b.length ∧ (InR (x + (b.getD (v9).toNat (0 : Int))) ∧ (0 ≤ (x + (b.getD (v9).toNat (0 : Int))) ∧ 0 < (257 : Int)) ∧ (InR (yv + ((x + (b.getD (v9).toNat (0 : Int))) % (257 : Int))) ∧ (0 ≤ (yv + ((x + (b.getD (v9).toNat (0 : Int))) % (257 : Int))) ∧ 0 < (257 : Int)) ∧ (InR (v9 + (1 : Int)) ∧ X1 (((x + (b.getD (v9).toNat (0 : Int))) % (257 : Int)), ((yv + ((x + (b.getD (v9).toNat (0 : Int))) % (257 : Int))) % (257 : Int)), (v9 + (1 : Int)))))))) ∧ ((decide (v9 < (b.length : Int))) = false → VC14_k1 K x yv))

def VC14 (b : (List Int)) (K : (List Int) → Prop) : Prop :=
  Loop (σ := Int × Int × Int) (fun s X => VC14_l1 b K s.1 s.2.1 s.2.2 X) ((0 : Int), (0 : Int), (0 : Int))

set_option maxHeartbeats 4000000 in
theorem link14 (b : (List Int)) (K : (List Int) → Prop) (h : VC14 b K) : ACallsO Try.prog 14 [toV1 (.sl (.int .u8)) b] 5 (.int .u8) K := by
  refine acallsO_of_aw 2 Try.func14 rfl rfl rfl ?_
  unfold VC14 at h
  refine aw_seq ?_
  refine aw_region ?_
  refine awl_runp 1 [0] [] (ob := (True ∧ True)) (st' := (⟨34, [(0, [], .v (.c (.p (.sl (.int .u8)) b)))], []⟩ : St)) (by kernel_rfl) ⟨trivial, trivial⟩ ?_
  refine awl_nil ?_
  refine thenQ_n ?_
  refine aw_seq ?_
  refine aw_region ?_
  refine awl_runp 2 [0, 3, 4] [] (ob := (True ∧ True ∧ True)) (st' := (⟨34, [(0, [], .v (.c (.p (.sl (.int .u8)) b))), (3, [], .v (.c (.p (.int .i64) (0 : Int)))), (4, [], .v (.c (.p (.int .i64) (0 : Int))))], []⟩ : St)) (by kernel_rfl) ⟨trivial, trivial, trivial⟩ ?_
  refine awl_nil ?_
  refine thenQ_n ?_
  refine aw_seq ?_
  refine aw_seq ?_
  refine aw_region ?_
  refine awl_runp 3 [3, 4, 7, 8, 9] [] (ob := (True ∧ True ∧ True ∧ True)) (st' := (⟨34, [(3, [], .v (.c (.p (.int .i64) (0 : Int)))), (4, [], .v (.c (.p (.int .i64) (0 : Int)))), (7, [], .v (.c (.p (.sl (.int .u8)) b))), (8, [], .v (.c (.p (.int .i64) (b.length : Int)))), (9, [], .v (.c (.p (.int .i64) (0 : Int))))], []⟩ : St)) (by kernel_rfl) ⟨trivial, trivial, trivial, trivial⟩ ?_
  refine awl_nil ?_
  refine thenQ_n ?_
  refine withJoin (σ := Int × Int) (fun s => (⟨34, [(3, [], .v (.c (.p (.int .i64) s.1))), (4, [], .v (.c (.p (.int .i64) s.2)))], []⟩ : St)) (fun s => VC14_k1 K s.1 s.2) (fun s h => ?_) (fun rest1 => ?_)
  · obtain ⟨x, yv⟩ := s
    have h : VC14_k1 K x yv := h
    unfold VC14_k1 at h
    refine thenQ_n ?_
    refine aw_seq ?_
    refine aw_region ?_
    obtain ⟨o1, o2, h⟩ := h
    refine awl_runp 12 [2] [33] (ob := (True ∧ True ∧ True ∧ (0 ≤ x ∧ 0 ≤ (8 : Int)) ∧ True ∧ True ∧ True ∧ True ∧ (0 ≤ yv ∧ 0 ≤ (8 : Int)) ∧ True ∧ True ∧ True ∧ True)) (st' := (⟨34, [(2, [], .v (.c (.own 33)))], [(33, [], .arr 5 (.int .u8) [(IntKind.wrap .u8 x), (IntKind.wrap .u8 (bShr .i64 x (8 : Int))), (IntKind.wrap .u8 yv), (IntKind.wrap .u8 (bShr .i64 yv (8 : Int)))])]⟩ : St)) (by kernel_rfl) ⟨trivial, trivial, trivial, o1, trivial, trivial, trivial, trivial, o2, trivial, trivial, trivial, trivial⟩ ?_
    refine awl_nil ?_
    refine thenQ_n ?_
    refine aw_ret ?_
    exact ⟨33, _, by kernel_rfl, by kernel_rfl, h⟩
  · refine aw_block ?_
    refine aw_loop (σ := Int × Int × Int) (fun s => (⟨34, [(3, [], .v (.c (.p (.int .i64) s.1))), (4, [], .v (.c (.p (.int .i64) s.2.1))), (7, [], .v (.c (.p (.sl (.int .u8)) b))), (8, [], .v (.c (.p (.int .i64) (b.length : Int)))), (9, [], .v (.c (.p (.int .i64) s.2.2)))], []⟩ : St)) (fun s X => VC14_l1 b K s.1 s.2.1 s.2.2 X) (s0 := ((0 : Int), (0 : Int), (0 : Int))) (fun s X1 h => ?_) h
    obtain ⟨x, yv, v9⟩ := s
    have h : VC14_l1 b K x yv v9 X1 := h
    unfold VC14_l1 at h
    refine aw_seq ?_
    refine aw_region ?_
    refine awl_runp 1 [3, 4, 7, 8, 9, 10] [] (ob := (True ∧ True)) (st' := (⟨34, [(3, [], .v (.c (.p (.int .i64) x))), (4, [], .v (.c (.p (.int .i64) yv))), (7, [], .v (.c (.p (.sl (.int .u8)) b))), (8, [], .v (.c (.p (.int .i64) (b.length : Int)))), (9, [], .v (.c (.p (.int .i64) v9))), (10, [], .v (.c (.p .bool (decide (v9 < (b.length : Int))))))], []⟩ : St)) (by kernel_rfl) ⟨trivial, trivial⟩ ?_
    refine awl_nil ?_
    refine thenQ_n ?_
    refine aw_seq ?_
    refine aw_cond (b := (decide (v9 < (b.length : Int)))) (by kernel_rfl) (fun hb => ?_) (fun hb => ?_)
    · have h := h.1 hb
      refine aw_skip ?_
      refine thenQ_n ?_
      refine aw_seq ?_
      refine aw_block ?_
      refine aw_seq ?_
      refine aw_region ?_
      obtain ⟨o1, h⟩ := h
      refine awl_runp 3 [3, 4, 6, 7, 8, 9] [] (ob := (inIdx v9 b.length ∧ True ∧ True ∧ True)) (st' := (⟨34, [(3, [], .v (.c (.p (.int .i64) x))), (4, [], .v (.c (.p (.int .i64) yv))), (6, [], .v (.c (.p (.int .u8) (b.getD (v9).toNat (0 : Int))))), (7, [], .v (.c (.p (.sl (.int .u8)) b))), (8, [], .v (.c (.p (.int .i64) (b.length : Int)))), (9, [], .v (.c (.p (.int .i64) v9)))], []⟩ : St)) (by kernel_rfl) ⟨o1, trivial, trivial, trivial⟩ ?_
      refine awl_nil ?_
      refine thenQ_n ?_
      refine aw_seq ?_
      refine aw_region ?_
      obtain ⟨o1, o2, h⟩ := h
      refine awl_runp 6 [3, 4, 7, 8, 9] [] (ob := (True ∧ True ∧ True ∧ InR (x + (b.getD (v9).toNat (0 : Int))) ∧ (0 ≤ (x + (b.getD (v9).toNat (0 : Int))) ∧ 0 < (257 : Int)) ∧ True ∧ True)) (st' := (⟨34, [(3, [], .v (.c (.p (.int .i64) ((x + (b.getD (v9).toNat (0 : Int))) % (257 : Int))))), (4, [], .v (.c (.p (.int .i64) yv))), (7, [], .v (.c (.p (.sl (.int .u8)) b))), (8, [], .v (.c (.p (.int .i64) (b.length : Int)))), (9, [], .v (.c (.p (.int .i64) v9)))], []⟩ : St)) (by kernel_rfl) ⟨trivial, trivial, trivial, o1, o2, trivial, trivial⟩ ?_
      refine awl_nil ?_
      refine thenQ_n ?_
      refine aw_region ?_
      obtain ⟨o1, o2, h⟩ := h
      refine awl_runp 5 [3, 4, 7, 8, 9] [] (ob := (True ∧ True ∧ InR (yv + ((x + (b.getD (v9).toNat (0 : Int))) % (257 : Int))) ∧ (0 ≤ (yv + ((x + (b.getD (v9).toNat (0 : Int))) % (257 : Int))) ∧ 0 < (257 : Int)) ∧ True ∧ True)) (st' := (⟨34, [(3, [], .v (.c (.p (.int .i64) ((x + (b.getD (v9).toNat (0 : Int))) % (257 : Int))))), (4, [], .v (.c (.p (.int .i64) ((yv + ((x + (b.getD (v9).toNat (0 : Int))) % (257 : Int))) % (257 : Int))))), (7, [], .v (.c (.p (.sl (.int .u8)) b))), (8, [], .v (.c (.p (.int .i64) (b.length : Int)))), (9, [], .v (.c (.p (.int .i64) v9)))], []⟩ : St)) (by kernel_rfl) ⟨trivial, trivial, o1, o2, trivial, trivial⟩ ?_
      refine awl_nil ?_
      refine blockQ_n ?_
      refine thenQ_n ?_
      refine aw_region ?_
      obtain ⟨o1, h⟩ := h
      refine awl_runp 2 [3, 4, 7, 8, 9] [] (ob := (InR (v9 + (1 : Int)) ∧ True ∧ True)) (st' := (⟨34, [(3, [], .v (.c (.p (.int .i64) ((x + (b.getD (v9).toNat (0 : Int))) % (257 : Int))))), (4, [], .v (.c (.p (.int .i64) ((yv + ((x + (b.getD (v9).toNat (0 : Int))) % (257 : Int))) % (257 : Int))))), (7, [], .v (.c (.p (.sl (.int .u8)) b))), (8, [], .v (.c (.p (.int .i64) (b.length : Int)))), (9, [], .v (.c (.p (.int .i64) (v9 + (1 : Int)))))], []⟩ : St)) (by kernel_rfl) ⟨o1, trivial, trivial⟩ ?_
      refine awl_nil ?_
      exact thenQ_n ⟨(((x + (b.getD (v9).toNat (0 : Int))) % (257 : Int)), ((yv + ((x + (b.getD (v9).toNat (0 : Int))) % (257 : Int))) % (257 : Int)), (v9 + (1 : Int))), rfl, h⟩
    · have h := h.2 hb
      refine aw_conv [.prune [3, 4] []] (st' := (⟨34, [(3, [], .v (.c (.p (.int .i64) x))), (4, [], .v (.c (.p (.int .i64) yv)))], []⟩ : St)) (by kernel_rfl) ?_
      refine aw_exit ?_
      refine thenQ_x ?_
      refine thenQ_x ?_
      refine blockQ_hit ?_
      exact rest1 (x, yv) h

-- coppicer/coppicerref.Bytes
def VC15_k1 (K : Bool → Prop) : Prop :=
  K true

def VC15_l1 (a : (List Int)) (b : (List Int)) (K : Bool → Prop) (i : Int) (X1 : Int → Prop) : Prop :=
  (((decide (i < (a.length : Int))) = true → (inIdx i a.length ∧ inIdx i b.length ∧ (((!decide ((a.getD (i).toNat (0 : Int)) = (b.getD (i).toNat (0 : Int)))) = true → K false) ∧ ((!decide ((a.getD (i).toNat (0 : Int)) = (b.getD (i).toNat (0 : Int)))) = false → (InR (i + (1 : Int)) ∧ X1 (i + (1 : Int))))))) ∧ ((decide (i < (a.length : Int))) = false → VC15_k1 K))

def VC15 (a : (List Int)) (b : (List Int)) (K : Bool → Prop) : Prop :=
  (((!decide ((a.length : Int) = (b.length : Int))) = true → K false) ∧ ((!decide ((a.length : Int) = (b.length : Int))) = false → Loop (σ := Int) (fun s X => VC15_l1 a b K s X) (0 : Int)))

set_option maxHeartbeats 4000000 in
theorem link15 (a : (List Int)) (b : (List Int)) (K : Bool → Prop) (h : VC15 a b K) : ACalls Try.prog 15 [toV1 (.sl (.int .u8)) a, toV1 (.sl (.int .u8)) b] (fun res => ∃ y, res = (fun y => [toV1 .bool y]) y ∧ K y) := by
  refine acalls_of_aw [.bool] [.t 4] Try.func15 rfl rfl rfl ?_
  unfold VC15 at h
  refine aw_seq ?_
  refine aw_region ?_
  refine awl_runp 1 [0, 1] [] (ob := (True ∧ True)) (st' := (⟨26, [(0, [], .v (.c (.p (.sl (.int .u8)) a))), (1, [], .v (.c (.p (.sl (.int .u8)) b)))], []⟩ : St)) (by kernel_rfl) ⟨trivial, trivial⟩ ?_
  refine awl_nil ?_
  refine thenQ_n ?_
  refine aw_seq ?_
  refine aw_seq ?_
  refine aw_region ?_
  refine awl_runp 5 [0, 1, 10] [] (ob := (True ∧ True ∧ True ∧ True ∧ True ∧ True)) (st' := (⟨26, [(0, [], .v (.c (.p (.sl (.int .u8)) a))), (1, [], .v (.c (.p (.sl (.int .u8)) b))), (10, [], .v (.c (.p .bool (!decide ((a.length : Int) = (b.length : Int))))))], []⟩ : St)) (by kernel_rfl) ⟨trivial, trivial, trivial, trivial, trivial, trivial⟩ ?_
  refine awl_nil ?_
  refine thenQ_n ?_
  refine aw_cond (b := (!decide ((a.length : Int) = (b.length : Int)))) (by kernel_rfl) (fun hb => ?_) (fun hb => ?_)
  · have h := h.1 hb
    refine aw_seq ?_
    refine aw_region ?_
    refine awl_runp 1 [4] [] (ob := (True ∧ True)) (st' := (⟨26, [(4, [], .v (.c (.p .bool false)))], []⟩ : St)) (by kernel_rfl) ⟨trivial, trivial⟩ ?_
    refine awl_nil ?_
    refine thenQ_n ?_
    refine aw_ret ?_
    refine thenQ_r ?_
    exact retQ_r (σ := Bool) (R := (fun y => [toV1 .bool y])) (ob := (True ∧ True)) false (by kernel_rfl) ⟨trivial, trivial⟩ h
  · have h := h.2 hb
    refine aw_skip ?_
    refine thenQ_n ?_
    refine aw_seq ?_
    refine aw_seq ?_
    refine aw_region ?_
    refine awl_runp 1 [0, 1, 5] [] (ob := (True ∧ True)) (st' := (⟨26, [(0, [], .v (.c (.p (.sl (.int .u8)) a))), (1, [], .v (.c (.p (.sl (.int .u8)) b))), (5, [], .v (.c (.p (.int .i64) (0 : Int))))], []⟩ : St)) (by kernel_rfl) ⟨trivial, trivial⟩ ?_
    refine awl_nil ?_
    refine thenQ_n ?_
    refine withJoin (σ := Unit) (fun s => (⟨26, [], []⟩ : St)) (fun s => VC15_k1 K) (fun s h => ?_) (fun rest1 => ?_)
    · have h : VC15_k1 K := h
      unfold VC15_k1 at h
      refine thenQ_n ?_
      refine aw_seq ?_
      refine aw_region ?_
      refine awl_runp 1 [4] [] (ob := (True ∧ True)) (st' := (⟨26, [(4, [], .v (.c (.p .bool true)))], []⟩ : St)) (by kernel_rfl) ⟨trivial, trivial⟩ ?_
      refine awl_nil ?_
      refine thenQ_n ?_
      refine aw_ret ?_
      exact retQ_r (σ := Bool) (R := (fun y => [toV1 .bool y])) (ob := (True ∧ True)) true (by kernel_rfl) ⟨trivial, trivial⟩ h
    · refine aw_block ?_
      refine aw_loop (σ := Int) (fun s => (⟨26, [(0, [], .v (.c (.p (.sl (.int .u8)) a))), (1, [], .v (.c (.p (.sl (.int .u8)) b))), (5, [], .v (.c (.p (.int .i64) s)))], []⟩ : St)) (fun s X => VC15_l1 a b K s X) (s0 := (0 : Int)) (fun i X1 h => ?_) h
      have h : VC15_l1 a b K i X1 := h
      unfold VC15_l1 at h
      refine aw_seq ?_
      refine aw_seq ?_
      refine aw_region ?_
      refine awl_runp 4 [0, 1, 5, 14] [] (ob := (True ∧ True ∧ True ∧ True ∧ True)) (st' := (⟨26, [(0, [], .v (.c (.p (.sl (.int .u8)) a))), (1, [], .v (.c (.p (.sl (.int .u8)) b))), (5, [], .v (.c (.p (.int .i64) i))), (14, [], .v (.c (.p .bool (decide (i < (a.length : Int))))))], []⟩ : St)) (by kernel_rfl) ⟨trivial, trivial, trivial, trivial, trivial⟩ ?_
      refine awl_nil ?_
      refine thenQ_n ?_
      refine aw_cond (b := (decide (i < (a.length : Int)))) (by kernel_rfl) (fun hb => ?_) (fun hb => ?_)
      · have h := h.1 hb
        refine aw_skip ?_
        refine thenQ_n ?_
        refine aw_seq ?_
        refine aw_block ?_
        refine aw_seq ?_
        refine awd_begin [] (by kernel_rfl) ?_
        obtain ⟨o1, o2, h⟩ := h
        refine awd_runp (by kernel_rfl) [0, 1, 2, 3, 4, 5, 6, 7, 8] [0, 1, 5, 25] [] (ob := (True ∧ True ∧ inIdx i a.length ∧ True ∧ True ∧ True ∧ inIdx i b.length ∧ True ∧ True ∧ True)) (done' := [8, 7, 6, 5, 4, 3, 2, 1, 0]) (st' := (⟨26, [(0, [], .v (.c (.p (.sl (.int .u8)) a))), (1, [], .v (.c (.p (.sl (.int .u8)) b))), (5, [], .v (.c (.p (.int .i64) i))), (25, [], .v (.c (.p .bool (!decide ((a.getD (i).toNat (0 : Int)) = (b.getD (i).toNat (0 : Int)))))))], []⟩ : St)) (by kernel_rfl) ⟨trivial, trivial, o1, trivial, trivial, trivial, o2, trivial, trivial, trivial⟩ ?_
        refine awd_done (by kernel_rfl) ?_
        refine thenQ_n ?_
        refine aw_cond (b := (!decide ((a.getD (i).toNat (0 : Int)) = (b.getD (i).toNat (0 : Int))))) (by kernel_rfl) (fun hb => ?_) (fun hb => ?_)
        · have h := h.1 hb
          refine aw_seq ?_
          refine aw_region ?_
          refine awl_runp 1 [4] [] (ob := (True ∧ True)) (st' := (⟨26, [(4, [], .v (.c (.p .bool false)))], []⟩ : St)) (by kernel_rfl) ⟨trivial, trivial⟩ ?_
          refine awl_nil ?_
          refine thenQ_n ?_
          refine aw_ret ?_
          refine blockQ_r ?_
          refine thenQ_r ?_
          refine thenQ_r ?_
          refine blockQ_r ?_
          refine thenQ_r ?_
          exact retQ_r (σ := Bool) (R := (fun y => [toV1 .bool y])) (ob := (True ∧ True)) false (by kernel_rfl) ⟨trivial, trivial⟩ h
        · have h := h.2 hb
          refine aw_skip ?_
          refine blockQ_n ?_
          refine thenQ_n ?_
          refine aw_region ?_
          obtain ⟨o1, h⟩ := h
          refine awl_runp 3 [0, 1, 5] [] (ob := (True ∧ InR (i + (1 : Int)) ∧ True ∧ True)) (st' := (⟨26, [(0, [], .v (.c (.p (.sl (.int .u8)) a))), (1, [], .v (.c (.p (.sl (.int .u8)) b))), (5, [], .v (.c (.p (.int .i64) (i + (1 : Int)))))], []⟩ : St)) (by kernel_rfl) ⟨trivial, o1, trivial, trivial⟩ ?_
          refine awl_nil ?_
          exact thenQ_n ⟨(i + (1 : Int)), rfl, h⟩
      · have h := h.2 hb
        refine aw_conv [.prune [] []] (st' := (⟨26, [], []⟩ : St)) (by kernel_rfl) ?_
        refine aw_exit ?_
        refine thenQ_x ?_
        refine thenQ_x ?_
        refine blockQ_hit ?_
        exact rest1 () h

-- coppicer/coppicerkeep.StoreSum
def VC3 (b : (List Int)) (k : Int) (K : Bool → Prop) : Prop :=
  VC14 b (fun (ret10v : (List Int)) => (roomN ([(0 : Int), (0 : Int), (0 : Int)].length + b.length) ∧ VC14 ([(0 : Int), (0 : Int), (0 : Int)] ++ b) (fun (ret14v : (List Int)) => (((decide ((1048576 : Int) < (b.length : Int))) = true → K true) ∧ ((decide ((1048576 : Int) < (b.length : Int))) = false → gcall (α := Bool) (!(!decide ((ret10v.length : Int) = (4 : Int)))) (VC15 ret10v ret14v) false (fun (ret24v : Bool) => ((((!decide ((ret10v.length : Int) = (4 : Int))) || (!ret24v)) = true → K false) ∧ (((!decide ((ret10v.length : Int) = (4 : Int))) || (!ret24v)) = false → (((decide ((b.length : Int) < (2 : Int))) = true → K true) ∧ ((decide ((b.length : Int) < (2 : Int))) = false → (InR ((b.length : Int) - (1 : Int)) ∧ (0 ≤ k ∧ 0 < ((b.length : Int) - (1 : Int))) ∧ (roomN (([] : List Int).length + b.length) ∧ (InR ((k % ((b.length : Int) - (1 : Int))) + (1 : Int)) ∧ InR ((k % ((b.length : Int) - (1 : Int))) + (1 : Int)) ∧ inIdx ((k % ((b.length : Int) - (1 : Int))) + (1 : Int)) (([] : List Int) ++ b).length ∧ inIdx (k % ((b.length : Int) - (1 : Int))) (([] : List Int) ++ b).length ∧ (inIdx (k % ((b.length : Int) - (1 : Int))) (([] : List Int) ++ b).length ∧ (inIdx ((k % ((b.length : Int) - (1 : Int))) + (1 : Int)) ((([] : List Int) ++ b).set (((k % ((b.length : Int) - (1 : Int)))).toNat) ((([] : List Int) ++ b).getD ((((k % ((b.length : Int) - (1 : Int))) + (1 : Int))).toNat) (0 : Int))).length ∧ (inIdx (k % ((b.length : Int) - (1 : Int))) b.length ∧ InR ((k % ((b.length : Int) - (1 : Int))) + (1 : Int)) ∧ inIdx ((k % ((b.length : Int) - (1 : Int))) + (1 : Int)) b.length ∧ VC14 (((([] : List Int) ++ b).set (((k % ((b.length : Int) - (1 : Int)))).toNat) ((([] : List Int) ++ b).getD ((((k % ((b.length : Int) - (1 : Int))) + (1 : Int))).toNat) (0 : Int))).set ((((k % ((b.length : Int) - (1 : Int))) + (1 : Int))).toNat) ((([] : List Int) ++ b).getD (((k % ((b.length : Int) - (1 : Int)))).toNat) (0 : Int))) (fun (ret56v : (List Int)) => VC15 ret56v ret10v (fun (ret58v : Bool) => K (ret58v == (decide ((b.getD ((k % ((b.length : Int) - (1 : Int)))).toNat (0 : Int)) = (b.getD (((k % ((b.length : Int) - (1 : Int))) + (1 : Int))).toNat (0 : Int)))))))))))))))))))))))

set_option maxHeartbeats 4000000 in
theorem link3 (b : (List Int)) (k : Int) (K : Bool → Prop) (h : VC3 b k K) : ACalls Try.prog 3 [toV1 (.sl (.int .u8)) b, toV1 (.int .u16) k] (fun res => ∃ y, res = (fun y => [toV1 .bool y]) y ∧ K y) := by
  refine acalls_of_aw [.bool] [.t 4] Try.func3 rfl rfl rfl ?_
  unfold VC3 at h
  refine aw_seq ?_
  refine aw_region ?_
  refine awl_runp 1 [0, 1] [] (ob := (True ∧ True)) (st' := (⟨70, [(0, [], .v (.c (.p (.sl (.int .u8)) b))), (1, [], .v (.c (.p (.int .u16) k)))], []⟩ : St)) (by kernel_rfl) ⟨trivial, trivial⟩ ?_
  refine awl_nil ?_
  refine thenQ_n ?_
  refine aw_seq ?_
  refine aw_region ?_
  refine awl_runp 1 [0, 1, 9] [] (ob := (True ∧ True)) (st' := (⟨70, [(0, [], .v (.c (.p (.sl (.int .u8)) b))), (1, [], .v (.c (.p (.int .u16) k))), (9, [], .v (.c (.p (.sl (.int .u8)) b)))], []⟩ : St)) (by kernel_rfl) ⟨trivial, trivial⟩ ?_
  refine awl_callOk (e := 5) (t := (.int .u8)) (l := [toV1 (.sl (.int .u8)) b]) (cl := []) false [.d (.sl (.int .u8))] [0, 1, 10] [10] (fun (ret10v : (List Int)) => (roomN ([(0 : Int), (0 : Int), (0 : Int)].length + b.length) ∧ VC14 ([(0 : Int), (0 : Int), (0 : Int)] ++ b) (fun (ret14v : (List Int)) => (((decide ((1048576 : Int) < (b.length : Int))) = true → K true) ∧ ((decide ((1048576 : Int) < (b.length : Int))) = false → gcall (α := Bool) (!(!decide ((ret10v.length : Int) = (4 : Int)))) (VC15 ret10v ret14v) false (fun (ret24v : Bool) => ((((!decide ((ret10v.length : Int) = (4 : Int))) || (!ret24v)) = true → K false) ∧ (((!decide ((ret10v.length : Int) = (4 : Int))) || (!ret24v)) = false → (((decide ((b.length : Int) < (2 : Int))) = true → K true) ∧ ((decide ((b.length : Int) < (2 : Int))) = false → (InR ((b.length : Int) - (1 : Int)) ∧ (0 ≤ k ∧ 0 < ((b.length : Int) - (1 : Int))) ∧ (roomN (([] : List Int).length + b.length) ∧ (InR ((k % ((b.length : Int) - (1 : Int))) + (1 : Int)) ∧ InR ((k % ((b.length : Int) - (1 : Int))) + (1 : Int)) ∧ inIdx ((k % ((b.length : Int) - (1 : Int))) + (1 : Int)) (([] : List Int) ++ b).length ∧ inIdx (k % ((b.length : Int) - (1 : Int))) (([] : List Int) ++ b).length ∧ (inIdx (k % ((b.length : Int) - (1 : Int))) (([] : List Int) ++ b).length ∧ (inIdx ((k % ((b.length : Int) - (1 : Int))) + (1 : Int)) ((([] : List Int) ++ b).set (((k % ((b.length : Int) - (1 : Int)))).toNat) ((([] : List Int) ++ b).getD ((((k % ((b.length : Int) - (1 : Int))) + (1 : Int))).toNat) (0 : Int))).length ∧ (inIdx (k % ((b.length : Int) - (1 : Int))) b.length ∧ InR ((k % ((b.length : Int) - (1 : Int))) + (1 : Int)) ∧ inIdx ((k % ((b.length : Int) - (1 : Int))) + (1 : Int)) b.length ∧ VC14 (((([] : List Int) ++ b).set (((k % ((b.length : Int) - (1 : Int)))).toNat) ((([] : List Int) ++ b).getD ((((k % ((b.length : Int) - (1 : Int))) + (1 : Int))).toNat) (0 : Int))).set ((((k % ((b.length : Int) - (1 : Int))) + (1 : Int))).toNat) ((([] : List Int) ++ b).getD (((k % ((b.length : Int) - (1 : Int)))).toNat) (0 : Int))) (fun (ret56v : (List Int)) => VC15 ret56v ret10v (fun (ret58v : Bool) => K (ret58v == (decide ((b.getD ((k % ((b.length : Int) - (1 : Int)))).toNat (0 : Int)) = (b.getD (((k % ((b.length : Int) - (1 : Int))) + (1 : Int))).toNat (0 : Int))))))))))))))))))))))) (fun ret10v => (⟨70, [(0, [], .v (.c (.p (.sl (.int .u8)) b))), (1, [], .v (.c (.p (.int .u16) k))), (10, [], .v (.c (.own 10)))], [(10, [], .arr 5 (.int .u8) ret10v)]⟩ : St)) rfl rfl (by kernel_rfl) rfl (by kernel_rfl) Try.call14 (by kernel_rfl) (fun e => by cases e) (fun ret10v => by kernel_rfl) (link14 b _ h) (fun ret10v h => ?_)
  have h : (roomN ([(0 : Int), (0 : Int), (0 : Int)].length + b.length) ∧ VC14 ([(0 : Int), (0 : Int), (0 : Int)] ++ b) (fun (ret14v : (List Int)) => (((decide ((1048576 : Int) < (b.length : Int))) = true → K true) ∧ ((decide ((1048576 : Int) < (b.length : Int))) = false → gcall (α := Bool) (!(!decide ((ret10v.length : Int) = (4 : Int)))) (VC15 ret10v ret14v) false (fun (ret24v : Bool) => ((((!decide ((ret10v.length : Int) = (4 : Int))) || (!ret24v)) = true → K false) ∧ (((!decide ((ret10v.length : Int) = (4 : Int))) || (!ret24v)) = false → (((decide ((b.length : Int) < (2 : Int))) = true → K true) ∧ ((decide ((b.length : Int) < (2 : Int))) = false → (InR ((b.length : Int) - (1 : Int)) ∧ (0 ≤ k ∧ 0 < ((b.length : Int) - (1 : Int))) ∧ (roomN (([] : List Int).length + b.length) ∧ (InR ((k % ((b.length : Int) - (1 : Int))) + (1 : Int)) ∧ InR ((k % ((b.length : Int) - (1 : Int))) + (1 : Int)) ∧ inIdx ((k % ((b.length : Int) - (1 : Int))) + (1 : Int)) (([] : List Int) ++ b).length ∧ inIdx (k % ((b.length : Int) - (1 : Int))) (([] : List Int) ++ b).length ∧ (inIdx (k % ((b.length : Int) - (1 : Int))) (([] : List Int) ++ b).length ∧ (inIdx ((k % ((b.length : Int) - (1 : Int))) + (1 : Int)) ((([] : List Int) ++ b).set (((k % ((b.length : Int) - (1 : Int)))).toNat) ((([] : List Int) ++ b).getD ((((k % ((b.length : Int) - (1 : Int))) + (1 : Int))).toNat) (0 : Int))).length ∧ (inIdx (k % ((b.length : Int) - (1 : Int))) b.length ∧ InR ((k % ((b.length : Int) - (1 : Int))) + (1 : Int)) ∧ inIdx ((k % ((b.length : Int) - (1 : Int))) + (1 : Int)) b.length ∧ VC14 (((([] : List Int) ++ b).set (((k % ((b.length : Int) - (1 : Int)))).toNat) ((([] : List Int) ++ b).getD ((((k % ((b.length : Int) - (1 : Int))) + (1 : Int))).toNat) (0 : Int))).set ((((k % ((b.length : Int) - (1 : Int))) + (1 : Int))).toNat) ((([] : List Int) ++ b).getD (((k % ((b.length : Int) - (1 : Int)))).toNat) (0 : Int))) (fun (ret56v : (List Int)) => VC15 ret56v ret10v (fun (ret58v : Bool) => K (ret58v == (decide ((b.getD ((k % ((b.length : Int) - (1 : Int)))).toNat (0 : Int)) = (b.getD (((k % ((b.length : Int) - (1 : Int))) + (1 : Int))).toNat (0 : Int)))))))))))))))))))))) := h
  refine awl_runp 1 [0, 1, 5] [10] (ob := (True ∧ True)) (st' := (⟨70, [(0, [], .v (.c (.p (.sl (.int .u8)) b))), (1, [], .v (.c (.p (.int .u16) k))), (5, [], .v (.c (.own 10)))], [(10, [], .arr 5 (.int .u8) ret10v)]⟩ : St)) (by kernel_rfl) ⟨trivial, trivial⟩ ?_
  refine awl_nil ?_
  refine thenQ_n ?_
  refine aw_seq ?_
  refine aw_region ?_
  obtain ⟨o1, h⟩ := h
  refine awl_runp 3 [0, 1, 5, 13] [10, 13] (ob := (True ∧ True ∧ roomN ([(0 : Int), (0 : Int), (0 : Int)].length + b.length) ∧ True)) (st' := (⟨70, [(0, [], .v (.c (.p (.sl (.int .u8)) b))), (1, [], .v (.c (.p (.int .u16) k))), (5, [], .v (.c (.own 10))), (13, [], .v (.c (.own 13)))], [(10, [], .arr 5 (.int .u8) ret10v), (13, [], .arr 5 (.int .u8) ([(0 : Int), (0 : Int), (0 : Int)] ++ b))]⟩ : St)) (by kernel_rfl) ⟨trivial, trivial, o1, trivial⟩ ?_
  refine awl_callOk (e := 5) (t := (.int .u8)) (l := [toV1 (.sl (.int .u8)) ([(0 : Int), (0 : Int), (0 : Int)] ++ b)]) (cl := []) true [.d (.sl (.int .u8))] [0, 1, 5, 14] [10, 14] (fun (ret14v : (List Int)) => (((decide ((1048576 : Int) < (b.length : Int))) = true → K true) ∧ ((decide ((1048576 : Int) < (b.length : Int))) = false → gcall (α := Bool) (!(!decide ((ret10v.length : Int) = (4 : Int)))) (VC15 ret10v ret14v) false (fun (ret24v : Bool) => ((((!decide ((ret10v.length : Int) = (4 : Int))) || (!ret24v)) = true → K false) ∧ (((!decide ((ret10v.length : Int) = (4 : Int))) || (!ret24v)) = false → (((decide ((b.length : Int) < (2 : Int))) = true → K true) ∧ ((decide ((b.length : Int) < (2 : Int))) = false → (InR ((b.length : Int) - (1 : Int)) ∧ (0 ≤ k ∧ 0 < ((b.length : Int) - (1 : Int))) ∧ (roomN (([] : List Int).length + b.length) ∧ (InR ((k % ((b.length : Int) - (1 : Int))) + (1 : Int)) ∧ InR ((k % ((b.length : Int) - (1 : Int))) + (1 : Int)) ∧ inIdx ((k % ((b.length : Int) - (1 : Int))) + (1 : Int)) (([] : List Int) ++ b).length ∧ inIdx (k % ((b.length : Int) - (1 : Int))) (([] : List Int) ++ b).length ∧ (inIdx (k % ((b.length : Int) - (1 : Int))) (([] : List Int) ++ b).length ∧ (inIdx ((k % ((b.length : Int) - (1 : Int))) + (1 : Int)) ((([] : List Int) ++ b).set (((k % ((b.length : Int) - (1 : Int)))).toNat) ((([] : List Int) ++ b).getD ((((k % ((b.length : Int) - (1 : Int))) + (1 : Int))).toNat) (0 : Int))).length ∧ (inIdx (k % ((b.length : Int) - (1 : Int))) b.length ∧ InR ((k % ((b.length : Int) - (1 : Int))) + (1 : Int)) ∧ inIdx ((k % ((b.length : Int) - (1 : Int))) + (1 : Int)) b.length ∧ VC14 (((([] : List Int) ++ b).set (((k % ((b.length : Int) - (1 : Int)))).toNat) ((([] : List Int) ++ b).getD ((((k % ((b.length : Int) - (1 : Int))) + (1 : Int))).toNat) (0 : Int))).set ((((k % ((b.length : Int) - (1 : Int))) + (1 : Int))).toNat) ((([] : List Int) ++ b).getD (((k % ((b.length : Int) - (1 : Int)))).toNat) (0 : Int))) (fun (ret56v : (List Int)) => VC15 ret56v ret10v (fun (ret58v : Bool) => K (ret58v == (decide ((b.getD ((k % ((b.length : Int) - (1 : Int)))).toNat (0 : Int)) = (b.getD (((k % ((b.length : Int) - (1 : Int))) + (1 : Int))).toNat (0 : Int))))))))))))))))))))) (fun ret14v => (⟨70, [(0, [], .v (.c (.p (.sl (.int .u8)) b))), (1, [], .v (.c (.p (.int .u16) k))), (5, [], .v (.c (.own 10))), (14, [], .v (.c (.own 14)))], [(10, [], .arr 5 (.int .u8) ret10v), (14, [], .arr 5 (.int .u8) ret14v)]⟩ : St)) rfl rfl (by kernel_rfl) rfl (by kernel_rfl) Try.call14 (by kernel_rfl) (fun _ => rfl) (fun ret14v => by kernel_rfl) (link14 ([(0 : Int), (0 : Int), (0 : Int)] ++ b) _ h) (fun ret14v h => ?_)
  have h : (((decide ((1048576 : Int) < (b.length : Int))) = true → K true) ∧ ((decide ((1048576 : Int) < (b.length : Int))) = false → gcall (α := Bool) (!(!decide ((ret10v.length : Int) = (4 : Int)))) (VC15 ret10v ret14v) false (fun (ret24v : Bool) => ((((!decide ((ret10v.length : Int) = (4 : Int))) || (!ret24v)) = true → K false) ∧ (((!decide ((ret10v.length : Int) = (4 : Int))) || (!ret24v)) = false → (((decide ((b.length : Int) < (2 : Int))) = true → K true) ∧ ((decide ((b.length : Int) < (2 : Int))) = false → (InR ((b.length : Int) - (1 : Int)) ∧ (0 ≤ k ∧ 0 < ((b.length : Int) - (1 : Int))) ∧ (roomN (([] : List Int).length + b.length) ∧ (InR ((k % ((b.length : Int) - (1 : Int))) + (1 : Int)) ∧ InR ((k % ((b.length : Int) - (1 : Int))) + (1 : Int)) ∧ inIdx ((k % ((b.length : Int) - (1 : Int))) + (1 : Int)) (([] : List Int) ++ b).length ∧ inIdx (k % ((b.length : Int) - (1 : Int))) (([] : List Int) ++ b).length ∧ (inIdx (k % ((b.length : Int) - (1 : Int))) (([] : List Int) ++ b).length ∧ (inIdx ((k % ((b.length : Int) - (1 : Int))) + (1 : Int)) ((([] : List Int) ++ b).set (((k % ((b.length : Int) - (1 : Int)))).toNat) ((([] : List Int) ++ b).getD ((((k % ((b.length : Int) - (1 : Int))) + (1 : Int))).toNat) (0 : Int))).length ∧ (inIdx (k % ((b.length : Int) - (1 : Int))) b.length ∧ InR ((k % ((b.length : Int) - (1 : Int))) + (1 : Int)) ∧ inIdx ((k % ((b.length : Int) - (1 : Int))) + (1 : Int)) b.length ∧ VC14 (((([] : List Int) ++ b).set (((k % ((b.length : Int) - (1 : Int)))).toNat) ((([] : List Int) ++ b).getD ((((k % ((b.length : Int) - (1 : Int))) + (1 : Int))).toNat) (0 : Int))).set ((((k % ((b.length : Int) - (1 : Int))) + (1 : Int))).toNat) ((([] : List Int) ++ b).getD (((k % ((b.length : Int) - (1 : Int)))).toNat) (0 : Int))) (fun (ret56v : (List Int)) => VC15 ret56v ret10v (fun (ret58v : Bool) => K (ret58v == (decide ((b.getD ((k % ((b.length : Int) - (1 : Int)))).toNat (0 : Int)) = (b.getD (((k % ((b.length : Int) - (1 : Int))) + (1 : Int))).toNat (0 : Int)))))))))))))))))))) := h
  refine awl_runp 1 [0, 1, 5, 6] [10, 14] (ob := (True ∧ True)) (st' := (⟨70, [(0, [], .v (.c (.p (.sl (.int .u8)) b))), (1, [], .v (.c (.p (.int .u16) k))), (5, [], .v (.c (.own 10))), (6, [], .v (.c (.own 14)))], [(10, [], .arr 5 (.int .u8) ret10v), (14, [], .arr 5 (.int .u8) ret14v)]⟩ : St)) (by kernel_rfl) ⟨trivial, trivial⟩ ?_
  refine awl_nil ?_
  refine thenQ_n ?_
  refine aw_seq ?_
  refine aw_seq ?_
  refine aw_region ?_
  refine awl_runp 3 [0, 1, 5, 6, 17] [10, 14] (ob := (True ∧ True ∧ True ∧ True)) (st' := (⟨70, [(0, [], .v (.c (.p (.sl (.int .u8)) b))), (1, [], .v (.c (.p (.int .u16) k))), (5, [], .v (.c (.own 10))), (6, [], .v (.c (.own 14))), (17, [], .v (.c (.p .bool (decide ((1048576 : Int) < (b.length : Int))))))], [(10, [], .arr 5 (.int .u8) ret10v), (14, [], .arr 5 (.int .u8) ret14v)]⟩ : St)) (by kernel_rfl) ⟨trivial, trivial, trivial, trivial⟩ ?_
  refine awl_nil ?_
  refine thenQ_n ?_
  refine aw_cond (b := (decide ((1048576 : Int) < (b.length : Int)))) (by kernel_rfl) (fun hb => ?_) (fun hb => ?_)
  · have h := h.1 hb
    refine aw_seq ?_
    refine aw_region ?_
    refine awl_runp 1 [4] [] (ob := (True ∧ True)) (st' := (⟨70, [(4, [], .v (.c (.p .bool true)))], []⟩ : St)) (by kernel_rfl) ⟨trivial, trivial⟩ ?_
    refine awl_nil ?_
    refine thenQ_n ?_
    refine aw_ret ?_
    refine thenQ_r ?_
    exact retQ_r (σ := Bool) (R := (fun y => [toV1 .bool y])) (ob := (True ∧ True)) true (by kernel_rfl) ⟨trivial, trivial⟩ h
  · have h := h.2 hb
    refine aw_skip ?_
    refine thenQ_n ?_
    refine aw_seq ?_
    refine aw_seq ?_
    refine aw_region ?_
    refine awl_runp 6 [0, 1, 5, 21, 22, 23] [10, 14] (ob := (True ∧ True ∧ True ∧ True ∧ ((!decide ((ret10v.length : Int) = (4 : Int))) = false → True) ∧ ((!decide ((ret10v.length : Int) = (4 : Int))) = false → True) ∧ True)) (st' := (⟨70, [(0, [], .v (.c (.p (.sl (.int .u8)) b))), (1, [], .v (.c (.p (.int .u16) k))), (5, [], .v (.c (.own 10))), (21, [], .v (.c (.p .bool (!decide ((ret10v.length : Int) = (4 : Int)))))), (22, [(21, false)], .v (.c (.own 10))), (23, [(21, false)], .v (.c (.own 14)))], [(10, [], .arr 5 (.int .u8) ret10v), (14, [], .arr 5 (.int .u8) ret14v)]⟩ : St)) (by kernel_rfl) ⟨trivial, trivial, trivial, trivial, (fun _ => trivial), (fun _ => trivial), trivial⟩ ?_
    refine awl_callk (p := [(21, false)]) (l := [toV1 (.sl (.int .u8)) ret10v, toV1 (.sl (.int .u8)) ret14v]) (cl := []) true [.d (.sl (.int .u8)), .d (.sl (.int .u8))] [0, 1, 5, 21, 24] [10] (fun (ret24v : Bool) => ((((!decide ((ret10v.length : Int) = (4 : Int))) || (!ret24v)) = true → K false) ∧ (((!decide ((ret10v.length : Int) = (4 : Int))) || (!ret24v)) = false → (((decide ((b.length : Int) < (2 : Int))) = true → K true) ∧ ((decide ((b.length : Int) < (2 : Int))) = false → (InR ((b.length : Int) - (1 : Int)) ∧ (0 ≤ k ∧ 0 < ((b.length : Int) - (1 : Int))) ∧ (roomN (([] : List Int).length + b.length) ∧ (InR ((k % ((b.length : Int) - (1 : Int))) + (1 : Int)) ∧ InR ((k % ((b.length : Int) - (1 : Int))) + (1 : Int)) ∧ inIdx ((k % ((b.length : Int) - (1 : Int))) + (1 : Int)) (([] : List Int) ++ b).length ∧ inIdx (k % ((b.length : Int) - (1 : Int))) (([] : List Int) ++ b).length ∧ (inIdx (k % ((b.length : Int) - (1 : Int))) (([] : List Int) ++ b).length ∧ (inIdx ((k % ((b.length : Int) - (1 : Int))) + (1 : Int)) ((([] : List Int) ++ b).set (((k % ((b.length : Int) - (1 : Int)))).toNat) ((([] : List Int) ++ b).getD ((((k % ((b.length : Int) - (1 : Int))) + (1 : Int))).toNat) (0 : Int))).length ∧ (inIdx (k % ((b.length : Int) - (1 : Int))) b.length ∧ InR ((k % ((b.length : Int) - (1 : Int))) + (1 : Int)) ∧ inIdx ((k % ((b.length : Int) - (1 : Int))) + (1 : Int)) b.length ∧ VC14 (((([] : List Int) ++ b).set (((k % ((b.length : Int) - (1 : Int)))).toNat) ((([] : List Int) ++ b).getD ((((k % ((b.length : Int) - (1 : Int))) + (1 : Int))).toNat) (0 : Int))).set ((((k % ((b.length : Int) - (1 : Int))) + (1 : Int))).toNat) ((([] : List Int) ++ b).getD (((k % ((b.length : Int) - (1 : Int)))).toNat) (0 : Int))) (fun (ret56v : (List Int)) => VC15 ret56v ret10v (fun (ret58v : Bool) => K (ret58v == (decide ((b.getD ((k % ((b.length : Int) - (1 : Int)))).toNat (0 : Int)) = (b.getD (((k % ((b.length : Int) - (1 : Int))) + (1 : Int))).toNat (0 : Int)))))))))))))))))) (fun ret24v => [toV1 .bool ret24v]) (fun ret24v => (⟨70, [(0, [], .v (.c (.p (.sl (.int .u8)) b))), (1, [], .v (.c (.p (.int .u16) k))), (5, [], .v (.c (.own 10))), (21, [], .v (.c (.p .bool (!decide ((ret10v.length : Int) = (4 : Int)))))), (24, [(21, false)], .v (.c (.p .bool ret24v)))], [(10, [], .arr 5 (.int .u8) ret10v)]⟩ : St)) (by kernel_rfl) rfl (by kernel_rfl) rfl (by kernel_rfl) Try.call15 (by kernel_rfl) (fun ret24v => by kernel_rfl) (fun _ _ => rfl) (fun hg => link15 ret10v ret14v _ (by have := gcall_T h (show (!(!decide ((ret10v.length : Int) = (4 : Int)))) = true from hg); exact this)) (fun hg => ⟨false, by have := gcall_F h (show (!(!decide ((ret10v.length : Int) = (4 : Int)))) = false from hg); exact this⟩) (fun ret24v h => ?_)
    have h : ((((!decide ((ret10v.length : Int) = (4 : Int))) || (!ret24v)) = true → K false) ∧ (((!decide ((ret10v.length : Int) = (4 : Int))) || (!ret24v)) = false → (((decide ((b.length : Int) < (2 : Int))) = true → K true) ∧ ((decide ((b.length : Int) < (2 : Int))) = false → (InR ((b.length : Int) - (1 : Int)) ∧ (0 ≤ k ∧ 0 < ((b.length : Int) - (1 : Int))) ∧ (roomN (([] : List Int).length + b.length) ∧ (InR ((k % ((b.length : Int) - (1 : Int))) + (1 : Int)) ∧ InR ((k % ((b.length : Int) - (1 : Int))) + (1 : Int)) ∧ inIdx ((k % ((b.length : Int) - (1 : Int))) + (1 : Int)) (([] : List Int) ++ b).length ∧ inIdx (k % ((b.length : Int) - (1 : Int))) (([] : List Int) ++ b).length ∧ (inIdx (k % ((b.length : Int) - (1 : Int))) (([] : List Int) ++ b).length ∧ (inIdx ((k % ((b.length : Int) - (1 : Int))) + (1 : Int)) ((([] : List Int) ++ b).set (((k % ((b.length : Int) - (1 : Int)))).toNat) ((([] : List Int) ++ b).getD ((((k % ((b.length : Int) - (1 : Int))) + (1 : Int))).toNat) (0 : Int))).length ∧ (inIdx (k % ((b.length : Int) - (1 : Int))) b.length ∧ InR ((k % ((b.length : Int) - (1 : Int))) + (1 : Int)) ∧ inIdx ((k % ((b.length : Int) - (1 : Int))) + (1 : Int)) b.length ∧ VC14 (((([] : List Int) ++ b).set (((k % ((b.length : Int) - (1 : Int)))).toNat) ((([] : List Int) ++ b).getD ((((k % ((b.length : Int) - (1 : Int))) + (1 : Int))).toNat) (0 : Int))).set ((((k % ((b.length : Int) - (1 : Int))) + (1 : Int))).toNat) ((([] : List Int) ++ b).getD (((k % ((b.length : Int) - (1 : Int)))).toNat) (0 : Int))) (fun (ret56v : (List Int)) => VC15 ret56v ret10v (fun (ret58v : Bool) => K (ret58v == (decide ((b.getD ((k % ((b.length : Int) - (1 : Int)))).toNat (0 : Int)) = (b.getD (((k % ((b.length : Int) - (1 : Int))) + (1 : Int))).toNat (0 : Int))))))))))))))))) := h
    refine awl_runp 2 [0, 1, 5, 26] [10] (ob := (((!decide ((ret10v.length : Int) = (4 : Int))) = false → True) ∧ True ∧ True)) (st' := (⟨70, [(0, [], .v (.c (.p (.sl (.int .u8)) b))), (1, [], .v (.c (.p (.int .u16) k))), (5, [], .v (.c (.own 10))), (26, [], .v (.c (.p .bool ((!decide ((ret10v.length : Int) = (4 : Int))) || (!ret24v)))))], [(10, [], .arr 5 (.int .u8) ret10v)]⟩ : St)) (by kernel_rfl) ⟨(fun _ => trivial), trivial, trivial⟩ ?_
    refine awl_nil ?_
    refine thenQ_n ?_
    refine aw_cond (b := ((!decide ((ret10v.length : Int) = (4 : Int))) || (!ret24v))) (by kernel_rfl) (fun hb => ?_) (fun hb => ?_)
    · have h := h.1 hb
      refine aw_seq ?_
      refine aw_region ?_
      refine awl_runp 1 [4] [] (ob := (True ∧ True)) (st' := (⟨70, [(4, [], .v (.c (.p .bool false)))], []⟩ : St)) (by kernel_rfl) ⟨trivial, trivial⟩ ?_
      refine awl_nil ?_
      refine thenQ_n ?_
      refine aw_ret ?_
      refine thenQ_r ?_
      exact retQ_r (σ := Bool) (R := (fun y => [toV1 .bool y])) (ob := (True ∧ True)) false (by kernel_rfl) ⟨trivial, trivial⟩ h
    · have h := h.2 hb
      refine aw_skip ?_
      refine thenQ_n ?_
      refine aw_seq ?_
      refine aw_seq ?_
      refine aw_region ?_
      refine awl_runp 3 [0, 1, 5, 29] [10] (ob := (True ∧ True ∧ True ∧ True)) (st' := (⟨70, [(0, [], .v (.c (.p (.sl (.int .u8)) b))), (1, [], .v (.c (.p (.int .u16) k))), (5, [], .v (.c (.own 10))), (29, [], .v (.c (.p .bool (decide ((b.length : Int) < (2 : Int))))))], [(10, [], .arr 5 (.int .u8) ret10v)]⟩ : St)) (by kernel_rfl) ⟨trivial, trivial, trivial, trivial⟩ ?_
      refine awl_nil ?_
      refine thenQ_n ?_
      refine aw_cond (b := (decide ((b.length : Int) < (2 : Int)))) (by kernel_rfl) (fun hb => ?_) (fun hb => ?_)
      · have h := h.1 hb
        refine aw_seq ?_
        refine aw_region ?_
        refine awl_runp 1 [4] [] (ob := (True ∧ True)) (st' := (⟨70, [(4, [], .v (.c (.p .bool true)))], []⟩ : St)) (by kernel_rfl) ⟨trivial, trivial⟩ ?_
        refine awl_nil ?_
        refine thenQ_n ?_
        refine aw_ret ?_
        refine thenQ_r ?_
        exact retQ_r (σ := Bool) (R := (fun y => [toV1 .bool y])) (ob := (True ∧ True)) true (by kernel_rfl) ⟨trivial, trivial⟩ h
      · have h := h.2 hb
        refine aw_skip ?_
        refine thenQ_n ?_
        refine aw_seq ?_
        refine aw_region ?_
        obtain ⟨o1, o2, h⟩ := h
        refine awl_runp 7 [0, 5, 7] [10] (ob := (True ∧ True ∧ True ∧ True ∧ InR ((b.length : Int) - (1 : Int)) ∧ (0 ≤ k ∧ 0 < ((b.length : Int) - (1 : Int))) ∧ True ∧ True)) (st' := (⟨70, [(0, [], .v (.c (.p (.sl (.int .u8)) b))), (5, [], .v (.c (.own 10))), (7, [], .v (.c (.p (.int .i64) (k % ((b.length : Int) - (1 : Int))))))], [(10, [], .arr 5 (.int .u8) ret10v)]⟩ : St)) (by kernel_rfl) ⟨trivial, trivial, trivial, trivial, o1, o2, trivial, trivial⟩ ?_
        refine awl_nil ?_
        refine thenQ_n ?_
        refine aw_seq ?_
        refine aw_region ?_
        obtain ⟨o1, h⟩ := h
        refine awl_runp 4 [0, 5, 7, 8] [10, 38] (ob := (True ∧ True ∧ roomN (([] : List Int).length + b.length) ∧ True ∧ True)) (st' := (⟨70, [(0, [], .v (.c (.p (.sl (.int .u8)) b))), (5, [], .v (.c (.own 10))), (7, [], .v (.c (.p (.int .i64) (k % ((b.length : Int) - (1 : Int)))))), (8, [], .v (.c (.own 38)))], [(10, [], .arr 5 (.int .u8) ret10v), (38, [], .arr 5 (.int .u8) (([] : List Int) ++ b))]⟩ : St)) (by kernel_rfl) ⟨trivial, trivial, o1, trivial, trivial⟩ ?_
        refine awl_nil ?_
        refine thenQ_n ?_
        refine aw_seq ?_
        refine awd_begin [38] (by kernel_rfl) ?_
        obtain ⟨o1, o2, o3, o4, h⟩ := h
        refine awd_runp (by kernel_rfl) [0, 1, 2, 3, 4, 5, 6, 7, 8, 10, 11, 12] [0, 5, 7, 8, 39, 40, 41, 43, 47, 51] [10, 38] (ob := (True ∧ True ∧ True ∧ True ∧ InR ((k % ((b.length : Int) - (1 : Int))) + (1 : Int)) ∧ True ∧ True ∧ InR ((k % ((b.length : Int) - (1 : Int))) + (1 : Int)) ∧ inIdx ((k % ((b.length : Int) - (1 : Int))) + (1 : Int)) (([] : List Int) ++ b).length ∧ True ∧ True ∧ inIdx (k % ((b.length : Int) - (1 : Int))) (([] : List Int) ++ b).length ∧ True)) (done' := [12, 11, 10, 8, 7, 6, 5, 4, 3, 2, 1, 0]) (st' := (⟨70, [(0, [], .v (.c (.p (.sl (.int .u8)) b))), (5, [], .v (.c (.own 10))), (7, [], .v (.c (.p (.int .i64) (k % ((b.length : Int) - (1 : Int)))))), (8, [], .v (.c (.own 38))), (39, [], .v (.c (.own 38))), (40, [], .v (.c (.p (.int .i64) (k % ((b.length : Int) - (1 : Int)))))), (41, [], .v (.c (.own 38))), (43, [], .v (.c (.p (.int .i64) ((k % ((b.length : Int) - (1 : Int))) + (1 : Int))))), (47, [], .v (.c (.el 38 ((((k % ((b.length : Int) - (1 : Int))) + (1 : Int))).toNat) 1))), (51, [], .v (.c (.el 38 (((k % ((b.length : Int) - (1 : Int)))).toNat) 1)))], [(10, [], .arr 5 (.int .u8) ret10v), (38, [], .arr 5 (.int .u8) (([] : List Int) ++ b))]⟩ : St)) (by kernel_rfl) ⟨trivial, trivial, trivial, trivial, o1, trivial, trivial, o2, o3, trivial, trivial, o4, trivial⟩ ?_
        refine awd_two (i := 9) (j := 13) (by kernel_rfl) ?_ ?_
        · have h := h
          refine adop_stepp [0, 5, 7, 8, 39, 40, 41, 43, 48, 51] [10, 38] (ob := True) (st' := (⟨70, [(0, [], .v (.c (.p (.sl (.int .u8)) b))), (5, [], .v (.c (.own 10))), (7, [], .v (.c (.p (.int .i64) (k % ((b.length : Int) - (1 : Int)))))), (8, [], .v (.c (.own 38))), (39, [], .v (.c (.own 38))), (40, [], .v (.c (.p (.int .i64) (k % ((b.length : Int) - (1 : Int)))))), (41, [], .v (.c (.own 38))), (43, [], .v (.c (.p (.int .i64) ((k % ((b.length : Int) - (1 : Int))) + (1 : Int))))), (48, [], .v (.c (.p (.int .u8) ((([] : List Int) ++ b).getD ((((k % ((b.length : Int) - (1 : Int))) + (1 : Int))).toNat) (0 : Int))))), (51, [], .v (.c (.el 38 (((k % ((b.length : Int) - (1 : Int)))).toNat) 1)))], [(10, [], .arr 5 (.int .u8) ret10v), (38, [], .arr 5 (.int .u8) (([] : List Int) ++ b))]⟩ : St)) rfl (by kernel_rfl) trivial ?_
          refine awd_one (i := 13) (by kernel_rfl) ?_
          refine adop_stepp [0, 5, 7, 8, 39, 40, 41, 43, 48, 52] [10, 38] (ob := True) (st' := (⟨70, [(0, [], .v (.c (.p (.sl (.int .u8)) b))), (5, [], .v (.c (.own 10))), (7, [], .v (.c (.p (.int .i64) (k % ((b.length : Int) - (1 : Int)))))), (8, [], .v (.c (.own 38))), (39, [], .v (.c (.own 38))), (40, [], .v (.c (.p (.int .i64) (k % ((b.length : Int) - (1 : Int)))))), (41, [], .v (.c (.own 38))), (43, [], .v (.c (.p (.int .i64) ((k % ((b.length : Int) - (1 : Int))) + (1 : Int))))), (48, [], .v (.c (.p (.int .u8) ((([] : List Int) ++ b).getD ((((k % ((b.length : Int) - (1 : Int))) + (1 : Int))).toNat) (0 : Int))))), (52, [], .v (.c (.p (.int .u8) ((([] : List Int) ++ b).getD (((k % ((b.length : Int) - (1 : Int)))).toNat) (0 : Int)))))], [(10, [], .arr 5 (.int .u8) ret10v), (38, [], .arr 5 (.int .u8) (([] : List Int) ++ b))]⟩ : St)) rfl (by kernel_rfl) trivial ?_
          obtain ⟨o1, h⟩ := h
          refine awd_runp (by kernel_rfl) [14] [0, 5, 7, 8, 41, 43, 48, 52, 53] [10, 38] (ob := (inIdx (k % ((b.length : Int) - (1 : Int))) (([] : List Int) ++ b).length ∧ True)) (done' := [14, 13, 9, 12, 11, 10, 8, 7, 6, 5, 4, 3, 2, 1, 0]) (st' := (⟨70, [(0, [], .v (.c (.p (.sl (.int .u8)) b))), (5, [], .v (.c (.own 10))), (7, [], .v (.c (.p (.int .i64) (k % ((b.length : Int) - (1 : Int)))))), (8, [], .v (.c (.own 38))), (41, [], .v (.c (.own 38))), (43, [], .v (.c (.p (.int .i64) ((k % ((b.length : Int) - (1 : Int))) + (1 : Int))))), (48, [], .v (.c (.p (.int .u8) ((([] : List Int) ++ b).getD ((((k % ((b.length : Int) - (1 : Int))) + (1 : Int))).toNat) (0 : Int))))), (52, [], .v (.c (.p (.int .u8) ((([] : List Int) ++ b).getD (((k % ((b.length : Int) - (1 : Int)))).toNat) (0 : Int))))), (53, [], .v (.c (.el 38 (((k % ((b.length : Int) - (1 : Int)))).toNat) 1)))], [(10, [], .arr 5 (.int .u8) ret10v), (38, [], .arr 5 (.int .u8) (([] : List Int) ++ b))]⟩ : St)) (by kernel_rfl) ⟨o1, trivial⟩ ?_
          refine awd_one (i := 15) (by kernel_rfl) ?_
          refine adop_stepp [0, 5, 7, 8, 41, 43, 52] [10, 38] (ob := True) (st' := (⟨70, [(0, [], .v (.c (.p (.sl (.int .u8)) b))), (5, [], .v (.c (.own 10))), (7, [], .v (.c (.p (.int .i64) (k % ((b.length : Int) - (1 : Int)))))), (8, [], .v (.c (.own 38))), (41, [], .v (.c (.own 38))), (43, [], .v (.c (.p (.int .i64) ((k % ((b.length : Int) - (1 : Int))) + (1 : Int))))), (52, [], .v (.c (.p (.int .u8) ((([] : List Int) ++ b).getD (((k % ((b.length : Int) - (1 : Int)))).toNat) (0 : Int)))))], [(10, [], .arr 5 (.int .u8) ret10v), (38, [], .arr 5 (.int .u8) ((([] : List Int) ++ b).set (((k % ((b.length : Int) - (1 : Int)))).toNat) ((([] : List Int) ++ b).getD ((((k % ((b.length : Int) - (1 : Int))) + (1 : Int))).toNat) (0 : Int))))]⟩ : St)) rfl (by kernel_rfl) trivial ?_
          obtain ⟨o1, h⟩ := h
          refine awd_runp (by kernel_rfl) [16] [0, 5, 7, 8, 52, 54] [10, 38] (ob := (inIdx ((k % ((b.length : Int) - (1 : Int))) + (1 : Int)) ((([] : List Int) ++ b).set (((k % ((b.length : Int) - (1 : Int)))).toNat) ((([] : List Int) ++ b).getD ((((k % ((b.length : Int) - (1 : Int))) + (1 : Int))).toNat) (0 : Int))).length ∧ True)) (done' := [16, 15, 14, 13, 9, 12, 11, 10, 8, 7, 6, 5, 4, 3, 2, 1, 0]) (st' := (⟨70, [(0, [], .v (.c (.p (.sl (.int .u8)) b))), (5, [], .v (.c (.own 10))), (7, [], .v (.c (.p (.int .i64) (k % ((b.length : Int) - (1 : Int)))))), (8, [], .v (.c (.own 38))), (52, [], .v (.c (.p (.int .u8) ((([] : List Int) ++ b).getD (((k % ((b.length : Int) - (1 : Int)))).toNat) (0 : Int))))), (54, [], .v (.c (.el 38 ((((k % ((b.length : Int) - (1 : Int))) + (1 : Int))).toNat) 1)))], [(10, [], .arr 5 (.int .u8) ret10v), (38, [], .arr 5 (.int .u8) ((([] : List Int) ++ b).set (((k % ((b.length : Int) - (1 : Int)))).toNat) ((([] : List Int) ++ b).getD ((((k % ((b.length : Int) - (1 : Int))) + (1 : Int))).toNat) (0 : Int))))]⟩ : St)) (by kernel_rfl) ⟨o1, trivial⟩ ?_
          refine awd_one (i := 17) (by kernel_rfl) ?_
          refine adop_stepp [0, 5, 7, 8] [10, 38] (ob := True) (st' := (⟨70, [(0, [], .v (.c (.p (.sl (.int .u8)) b))), (5, [], .v (.c (.own 10))), (7, [], .v (.c (.p (.int .i64) (k % ((b.length : Int) - (1 : Int)))))), (8, [], .v (.c (.own 38)))], [(10, [], .arr 5 (.int .u8) ret10v), (38, [], .arr 5 (.int .u8) (((([] : List Int) ++ b).set (((k % ((b.length : Int) - (1 : Int)))).toNat) ((([] : List Int) ++ b).getD ((((k % ((b.length : Int) - (1 : Int))) + (1 : Int))).toNat) (0 : Int))).set ((((k % ((b.length : Int) - (1 : Int))) + (1 : Int))).toNat) ((([] : List Int) ++ b).getD (((k % ((b.length : Int) - (1 : Int)))).toNat) (0 : Int))))]⟩ : St)) rfl (by kernel_rfl) trivial ?_
          refine awd_done (by kernel_rfl) ?_
          refine thenQ_n ?_
          refine aw_seq ?_
          refine awd_begin [] (by kernel_rfl) ?_
          obtain ⟨o1, o2, o3, h⟩ := h
          refine awd_runp (by kernel_rfl) [0, 2, 4, 5, 6, 7, 8, 9, 10, 11, 12, 13] [55, 57, 68] [10, 38] (ob := (True ∧ True ∧ True ∧ True ∧ inIdx (k % ((b.length : Int) - (1 : Int))) b.length ∧ True ∧ True ∧ True ∧ InR ((k % ((b.length : Int) - (1 : Int))) + (1 : Int)) ∧ inIdx ((k % ((b.length : Int) - (1 : Int))) + (1 : Int)) b.length ∧ True ∧ True ∧ True)) (done' := [13, 12, 11, 10, 9, 8, 7, 6, 5, 4, 2, 0]) (st' := (⟨70, [(55, [], .v (.c (.own 38))), (57, [], .v (.c (.own 10))), (68, [], .v (.c (.p .bool (decide ((b.getD ((k % ((b.length : Int) - (1 : Int)))).toNat (0 : Int)) = (b.getD (((k % ((b.length : Int) - (1 : Int))) + (1 : Int))).toNat (0 : Int)))))))], [(10, [], .arr 5 (.int .u8) ret10v), (38, [], .arr 5 (.int .u8) (((([] : List Int) ++ b).set (((k % ((b.length : Int) - (1 : Int)))).toNat) ((([] : List Int) ++ b).getD ((((k % ((b.length : Int) - (1 : Int))) + (1 : Int))).toNat) (0 : Int))).set ((((k % ((b.length : Int) - (1 : Int))) + (1 : Int))).toNat) ((([] : List Int) ++ b).getD (((k % ((b.length : Int) - (1 : Int)))).toNat) (0 : Int))))]⟩ : St)) (by kernel_rfl) ⟨trivial, trivial, trivial, trivial, o1, trivial, trivial, trivial, o2, o3, trivial, trivial, trivial⟩ ?_
          refine awd_one (i := 1) (by kernel_rfl) ?_
          refine adop_callOk (e := 5) (t := (.int .u8)) (l := [toV1 (.sl (.int .u8)) (((([] : List Int) ++ b).set (((k % ((b.length : Int) - (1 : Int)))).toNat) ((([] : List Int) ++ b).getD ((((k % ((b.length : Int) - (1 : Int))) + (1 : Int))).toNat) (0 : Int))).set ((((k % ((b.length : Int) - (1 : Int))) + (1 : Int))).toNat) ((([] : List Int) ++ b).getD (((k % ((b.length : Int) - (1 : Int)))).toNat) (0 : Int)))]) (cl := []) true [.d (.sl (.int .u8))] [56, 57, 68] [10, 56] (fun (ret56v : (List Int)) => VC15 ret56v ret10v (fun (ret58v : Bool) => K (ret58v == (decide ((b.getD ((k % ((b.length : Int) - (1 : Int)))).toNat (0 : Int)) = (b.getD (((k % ((b.length : Int) - (1 : Int))) + (1 : Int))).toNat (0 : Int))))))) (fun ret56v => (⟨70, [(56, [], .v (.c (.own 56))), (57, [], .v (.c (.own 10))), (68, [], .v (.c (.p .bool (decide ((b.getD ((k % ((b.length : Int) - (1 : Int)))).toNat (0 : Int)) = (b.getD (((k % ((b.length : Int) - (1 : Int))) + (1 : Int))).toNat (0 : Int)))))))], [(10, [], .arr 5 (.int .u8) ret10v), (56, [], .arr 5 (.int .u8) ret56v)]⟩ : St)) rfl rfl rfl (by kernel_rfl) rfl (by kernel_rfl) Try.call14 (by kernel_rfl) (fun _ => rfl) (fun ret56v => by kernel_rfl) (link14 (((([] : List Int) ++ b).set (((k % ((b.length : Int) - (1 : Int)))).toNat) ((([] : List Int) ++ b).getD ((((k % ((b.length : Int) - (1 : Int))) + (1 : Int))).toNat) (0 : Int))).set ((((k % ((b.length : Int) - (1 : Int))) + (1 : Int))).toNat) ((([] : List Int) ++ b).getD (((k % ((b.length : Int) - (1 : Int)))).toNat) (0 : Int))) _ h) (fun ret56v h => ?_)
          have h : VC15 ret56v ret10v (fun (ret58v : Bool) => K (ret58v == (decide ((b.getD ((k % ((b.length : Int) - (1 : Int)))).toNat (0 : Int)) = (b.getD (((k % ((b.length : Int) - (1 : Int))) + (1 : Int))).toNat (0 : Int)))))) := h
          refine awd_one (i := 3) (by kernel_rfl) ?_
          refine adop_callk (p := []) (l := [toV1 (.sl (.int .u8)) ret56v, toV1 (.sl (.int .u8)) ret10v]) (cl := []) true [.d (.sl (.int .u8)), .d (.sl (.int .u8))] [58, 68] [] (fun (ret58v : Bool) => K (ret58v == (decide ((b.getD ((k % ((b.length : Int) - (1 : Int)))).toNat (0 : Int)) = (b.getD (((k % ((b.length : Int) - (1 : Int))) + (1 : Int))).toNat (0 : Int)))))) (fun ret58v => [toV1 .bool ret58v]) (fun ret58v => (⟨70, [(58, [], .v (.c (.p .bool ret58v))), (68, [], .v (.c (.p .bool (decide ((b.getD ((k % ((b.length : Int) - (1 : Int)))).toNat (0 : Int)) = (b.getD (((k % ((b.length : Int) - (1 : Int))) + (1 : Int))).toNat (0 : Int)))))))], []⟩ : St)) rfl (by kernel_rfl) rfl (by kernel_rfl) rfl (by kernel_rfl) Try.call15 (by kernel_rfl) (fun ret58v => by kernel_rfl) (fun _ _ => rfl) (fun hg => link15 ret56v ret10v _ h) (fun hg => noF hg) (fun ret58v h => ?_)
          have h : K (ret58v == (decide ((b.getD ((k % ((b.length : Int) - (1 : Int)))).toNat (0 : Int)) = (b.getD (((k % ((b.length : Int) - (1 : Int))) + (1 : Int))).toNat (0 : Int))))) := h
          refine awd_runp (by kernel_rfl) [14, 15] [4] [] (ob := (True ∧ True ∧ True)) (done' := [15, 14, 3, 1, 13, 12, 11, 10, 9, 8, 7, 6, 5, 4, 2, 0]) (st' := (⟨70, [(4, [], .v (.c (.p .bool (ret58v == (decide ((b.getD ((k % ((b.length : Int) - (1 : Int)))).toNat (0 : Int)) = (b.getD (((k % ((b.length : Int) - (1 : Int))) + (1 : Int))).toNat (0 : Int))))))))], []⟩ : St)) (by kernel_rfl) ⟨trivial, trivial, trivial⟩ ?_
          refine awd_done (by kernel_rfl) ?_
          refine thenQ_n ?_
          refine aw_ret ?_
          exact retQ_r (σ := Bool) (R := (fun y => [toV1 .bool y])) (ob := (True ∧ True)) (ret58v == (decide ((b.getD ((k % ((b.length : Int) - (1 : Int)))).toNat (0 : Int)) = (b.getD (((k % ((b.length : Int) - (1 : Int))) + (1 : Int))).toNat (0 : Int))))) (by kernel_rfl) ⟨trivial, trivial⟩ h
        · have h := h
          refine adop_stepp [0, 5, 7, 8, 39, 40, 41, 43, 47, 52] [10, 38] (ob := True) (st' := (⟨70, [(0, [], .v (.c (.p (.sl (.int .u8)) b))), (5, [], .v (.c (.own 10))), (7, [], .v (.c (.p (.int .i64) (k % ((b.length : Int) - (1 : Int)))))), (8, [], .v (.c (.own 38))), (39, [], .v (.c (.own 38))), (40, [], .v (.c (.p (.int .i64) (k % ((b.length : Int) - (1 : Int)))))), (41, [], .v (.c (.own 38))), (43, [], .v (.c (.p (.int .i64) ((k % ((b.length : Int) - (1 : Int))) + (1 : Int))))), (47, [], .v (.c (.el 38 ((((k % ((b.length : Int) - (1 : Int))) + (1 : Int))).toNat) 1))), (52, [], .v (.c (.p (.int .u8) ((([] : List Int) ++ b).getD (((k % ((b.length : Int) - (1 : Int)))).toNat) (0 : Int)))))], [(10, [], .arr 5 (.int .u8) ret10v), (38, [], .arr 5 (.int .u8) (([] : List Int) ++ b))]⟩ : St)) rfl (by kernel_rfl) trivial ?_
          refine awd_one (i := 9) (by kernel_rfl) ?_
          refine adop_stepp [0, 5, 7, 8, 39, 40, 41, 43, 48, 52] [10, 38] (ob := True) (st' := (⟨70, [(0, [], .v (.c (.p (.sl (.int .u8)) b))), (5, [], .v (.c (.own 10))), (7, [], .v (.c (.p (.int .i64) (k % ((b.length : Int) - (1 : Int)))))), (8, [], .v (.c (.own 38))), (39, [], .v (.c (.own 38))), (40, [], .v (.c (.p (.int .i64) (k % ((b.length : Int) - (1 : Int)))))), (41, [], .v (.c (.own 38))), (43, [], .v (.c (.p (.int .i64) ((k % ((b.length : Int) - (1 : Int))) + (1 : Int))))), (48, [], .v (.c (.p (.int .u8) ((([] : List Int) ++ b).getD ((((k % ((b.length : Int) - (1 : Int))) + (1 : Int))).toNat) (0 : Int))))), (52, [], .v (.c (.p (.int .u8) ((([] : List Int) ++ b).getD (((k % ((b.length : Int) - (1 : Int)))).toNat) (0 : Int)))))], [(10, [], .arr 5 (.int .u8) ret10v), (38, [], .arr 5 (.int .u8) (([] : List Int) ++ b))]⟩ : St)) rfl (by kernel_rfl) trivial ?_
          obtain ⟨o1, h⟩ := h
          refine awd_runp (by kernel_rfl) [14] [0, 5, 7, 8, 41, 43, 48, 52, 53] [10, 38] (ob := (inIdx (k % ((b.length : Int) - (1 : Int))) (([] : List Int) ++ b).length ∧ True)) (done' := [14, 9, 13, 12, 11, 10, 8, 7, 6, 5, 4, 3, 2, 1, 0]) (st' := (⟨70, [(0, [], .v (.c (.p (.sl (.int .u8)) b))), (5, [], .v (.c (.own 10))), (7, [], .v (.c (.p (.int .i64) (k % ((b.length : Int) - (1 : Int)))))), (8, [], .v (.c (.own 38))), (41, [], .v (.c (.own 38))), (43, [], .v (.c (.p (.int .i64) ((k % ((b.length : Int) - (1 : Int))) + (1 : Int))))), (48, [], .v (.c (.p (.int .u8) ((([] : List Int) ++ b).getD ((((k % ((b.length : Int) - (1 : Int))) + (1 : Int))).toNat) (0 : Int))))), (52, [], .v (.c (.p (.int .u8) ((([] : List Int) ++ b).getD (((k % ((b.length : Int) - (1 : Int)))).toNat) (0 : Int))))), (53, [], .v (.c (.el 38 (((k % ((b.length : Int) - (1 : Int)))).toNat) 1)))], [(10, [], .arr 5 (.int .u8) ret10v), (38, [], .arr 5 (.int .u8) (([] : List Int) ++ b))]⟩ : St)) (by kernel_rfl) ⟨o1, trivial⟩ ?_
          refine awd_one (i := 15) (by kernel_rfl) ?_
          refine adop_stepp [0, 5, 7, 8, 41, 43, 52] [10, 38] (ob := True) (st' := (⟨70, [(0, [], .v (.c (.p (.sl (.int .u8)) b))), (5, [], .v (.c (.own 10))), (7, [], .v (.c (.p (.int .i64) (k % ((b.length : Int) - (1 : Int)))))), (8, [], .v (.c (.own 38))), (41, [], .v (.c (.own 38))), (43, [], .v (.c (.p (.int .i64) ((k % ((b.length : Int) - (1 : Int))) + (1 : Int))))), (52, [], .v (.c (.p (.int .u8) ((([] : List Int) ++ b).getD (((k % ((b.length : Int) - (1 : Int)))).toNat) (0 : Int)))))], [(10, [], .arr 5 (.int .u8) ret10v), (38, [], .arr 5 (.int .u8) ((([] : List Int) ++ b).set (((k % ((b.length : Int) - (1 : Int)))).toNat) ((([] : List Int) ++ b).getD ((((k % ((b.length : Int) - (1 : Int))) + (1 : Int))).toNat) (0 : Int))))]⟩ : St)) rfl (by kernel_rfl) trivial ?_
          obtain ⟨o1, h⟩ := h
          refine awd_runp (by kernel_rfl) [16] [0, 5, 7, 8, 52, 54] [10, 38] (ob := (inIdx ((k % ((b.length : Int) - (1 : Int))) + (1 : Int)) ((([] : List Int) ++ b).set (((k % ((b.length : Int) - (1 : Int)))).toNat) ((([] : List Int) ++ b).getD ((((k % ((b.length : Int) - (1 : Int))) + (1 : Int))).toNat) (0 : Int))).length ∧ True)) (done' := [16, 15, 14, 9, 13, 12, 11, 10, 8, 7, 6, 5, 4, 3, 2, 1, 0]) (st' := (⟨70, [(0, [], .v (.c (.p (.sl (.int .u8)) b))), (5, [], .v (.c (.own 10))), (7, [], .v (.c (.p (.int .i64) (k % ((b.length : Int) - (1 : Int)))))), (8, [], .v (.c (.own 38))), (52, [], .v (.c (.p (.int .u8) ((([] : List Int) ++ b).getD (((k % ((b.length : Int) - (1 : Int)))).toNat) (0 : Int))))), (54, [], .v (.c (.el 38 ((((k % ((b.length : Int) - (1 : Int))) + (1 : Int))).toNat) 1)))], [(10, [], .arr 5 (.int .u8) ret10v), (38, [], .arr 5 (.int .u8) ((([] : List Int) ++ b).set (((k % ((b.length : Int) - (1 : Int)))).toNat) ((([] : List Int) ++ b).getD ((((k % ((b.length : Int) - (1 : Int))) + (1 : Int))).toNat) (0 : Int))))]⟩ : St)) (by kernel_rfl) ⟨o1, trivial⟩ ?_
          refine awd_one (i := 17) (by kernel_rfl) ?_
          refine adop_stepp [0, 5, 7, 8] [10, 38] (ob := True) (st' := (⟨70, [(0, [], .v (.c (.p (.sl (.int .u8)) b))), (5, [], .v (.c (.own 10))), (7, [], .v (.c (.p (.int .i64) (k % ((b.length : Int) - (1 : Int)))))), (8, [], .v (.c (.own 38)))], [(10, [], .arr 5 (.int .u8) ret10v), (38, [], .arr 5 (.int .u8) (((([] : List Int) ++ b).set (((k % ((b.length : Int) - (1 : Int)))).toNat) ((([] : List Int) ++ b).getD ((((k % ((b.length : Int) - (1 : Int))) + (1 : Int))).toNat) (0 : Int))).set ((((k % ((b.length : Int) - (1 : Int))) + (1 : Int))).toNat) ((([] : List Int) ++ b).getD (((k % ((b.length : Int) - (1 : Int)))).toNat) (0 : Int))))]⟩ : St)) rfl (by kernel_rfl) trivial ?_
          refine awd_done (by kernel_rfl) ?_
          refine thenQ_n ?_
          refine aw_seq ?_
          refine awd_begin [] (by kernel_rfl) ?_
          obtain ⟨o1, o2, o3, h⟩ := h
          refine awd_runp (by kernel_rfl) [0, 2, 4, 5, 6, 7, 8, 9, 10, 11, 12, 13] [55, 57, 68] [10, 38] (ob := (True ∧ True ∧ True ∧ True ∧ inIdx (k % ((b.length : Int) - (1 : Int))) b.length ∧ True ∧ True ∧ True ∧ InR ((k % ((b.length : Int) - (1 : Int))) + (1 : Int)) ∧ inIdx ((k % ((b.length : Int) - (1 : Int))) + (1 : Int)) b.length ∧ True ∧ True ∧ True)) (done' := [13, 12, 11, 10, 9, 8, 7, 6, 5, 4, 2, 0]) (st' := (⟨70, [(55, [], .v (.c (.own 38))), (57, [], .v (.c (.own 10))), (68, [], .v (.c (.p .bool (decide ((b.getD ((k % ((b.length : Int) - (1 : Int)))).toNat (0 : Int)) = (b.getD (((k % ((b.length : Int) - (1 : Int))) + (1 : Int))).toNat (0 : Int)))))))], [(10, [], .arr 5 (.int .u8) ret10v), (38, [], .arr 5 (.int .u8) (((([] : List Int) ++ b).set (((k % ((b.length : Int) - (1 : Int)))).toNat) ((([] : List Int) ++ b).getD ((((k % ((b.length : Int) - (1 : Int))) + (1 : Int))).toNat) (0 : Int))).set ((((k % ((b.length : Int) - (1 : Int))) + (1 : Int))).toNat) ((([] : List Int) ++ b).getD (((k % ((b.length : Int) - (1 : Int)))).toNat) (0 : Int))))]⟩ : St)) (by kernel_rfl) ⟨trivial, trivial, trivial, trivial, o1, trivial, trivial, trivial, o2, o3, trivial, trivial, trivial⟩ ?_
          refine awd_one (i := 1) (by kernel_rfl) ?_
          refine adop_callOk (e := 5) (t := (.int .u8)) (l := [toV1 (.sl (.int .u8)) (((([] : List Int) ++ b).set (((k % ((b.length : Int) - (1 : Int)))).toNat) ((([] : List Int) ++ b).getD ((((k % ((b.length : Int) - (1 : Int))) + (1 : Int))).toNat) (0 : Int))).set ((((k % ((b.length : Int) - (1 : Int))) + (1 : Int))).toNat) ((([] : List Int) ++ b).getD (((k % ((b.length : Int) - (1 : Int)))).toNat) (0 : Int)))]) (cl := []) true [.d (.sl (.int .u8))] [56, 57, 68] [10, 56] (fun (ret56v : (List Int)) => VC15 ret56v ret10v (fun (ret58v : Bool) => K (ret58v == (decide ((b.getD ((k % ((b.length : Int) - (1 : Int)))).toNat (0 : Int)) = (b.getD (((k % ((b.length : Int) - (1 : Int))) + (1 : Int))).toNat (0 : Int))))))) (fun ret56v => (⟨70, [(56, [], .v (.c (.own 56))), (57, [], .v (.c (.own 10))), (68, [], .v (.c (.p .bool (decide ((b.getD ((k % ((b.length : Int) - (1 : Int)))).toNat (0 : Int)) = (b.getD (((k % ((b.length : Int) - (1 : Int))) + (1 : Int))).toNat (0 : Int)))))))], [(10, [], .arr 5 (.int .u8) ret10v), (56, [], .arr 5 (.int .u8) ret56v)]⟩ : St)) rfl rfl rfl (by kernel_rfl) rfl (by kernel_rfl) Try.call14 (by kernel_rfl) (fun _ => rfl) (fun ret56v => by kernel_rfl) (link14 (((([] : List Int) ++ b).set (((k % ((b.length : Int) - (1 : Int)))).toNat) ((([] : List Int) ++ b).getD ((((k % ((b.length : Int) - (1 : Int))) + (1 : Int))).toNat) (0 : Int))).set ((((k % ((b.length : Int) - (1 : Int))) + (1 : Int))).toNat) ((([] : List Int) ++ b).getD (((k % ((b.length : Int) - (1 : Int)))).toNat) (0 : Int))) _ h) (fun ret56v h => ?_)
          have h : VC15 ret56v ret10v (fun (ret58v : Bool) => K (ret58v == (decide ((b.getD ((k % ((b.length : Int) - (1 : Int)))).toNat (0 : Int)) = (b.getD (((k % ((b.length : Int) - (1 : Int))) + (1 : Int))).toNat (0 : Int)))))) := h
          refine awd_one (i := 3) (by kernel_rfl) ?_
          refine adop_callk (p := []) (l := [toV1 (.sl (.int .u8)) ret56v, toV1 (.sl (.int .u8)) ret10v]) (cl := []) true [.d (.sl (.int .u8)), .d (.sl (.int .u8))] [58, 68] [] (fun (ret58v : Bool) => K (ret58v == (decide ((b.getD ((k % ((b.length : Int) - (1 : Int)))).toNat (0 : Int)) = (b.getD (((k % ((b.length : Int) - (1 : Int))) + (1 : Int))).toNat (0 : Int)))))) (fun ret58v => [toV1 .bool ret58v]) (fun ret58v => (⟨70, [(58, [], .v (.c (.p .bool ret58v))), (68, [], .v (.c (.p .bool (decide ((b.getD ((k % ((b.length : Int) - (1 : Int)))).toNat (0 : Int)) = (b.getD (((k % ((b.length : Int) - (1 : Int))) + (1 : Int))).toNat (0 : Int)))))))], []⟩ : St)) rfl (by kernel_rfl) rfl (by kernel_rfl) rfl (by kernel_rfl) Try.call15 (by kernel_rfl) (fun ret58v => by kernel_rfl) (fun _ _ => rfl) (fun hg => link15 ret56v ret10v _ h) (fun hg => noF hg) (fun ret58v h => ?_)
          have h : K (ret58v == (decide ((b.getD ((k % ((b.length : Int) - (1 : Int)))).toNat (0 : Int)) = (b.getD (((k % ((b.length : Int) - (1 : Int))) + (1 : Int))).toNat (0 : Int))))) := h
          refine awd_runp (by kernel_rfl) [14, 15] [4] [] (ob := (True ∧ True ∧ True)) (done' := [15, 14, 3, 1, 13, 12, 11, 10, 9, 8, 7, 6, 5, 4, 2, 0]) (st' := (⟨70, [(4, [], .v (.c (.p .bool (ret58v == (decide ((b.getD ((k % ((b.length : Int) - (1 : Int)))).toNat (0 : Int)) = (b.getD (((k % ((b.length : Int) - (1 : Int))) + (1 : Int))).toNat (0 : Int))))))))], []⟩ : St)) (by kernel_rfl) ⟨trivial, trivial, trivial⟩ ?_
          refine awd_done (by kernel_rfl) ?_
          refine thenQ_n ?_
          refine aw_ret ?_
          exact retQ_r (σ := Bool) (R := (fun y => [toV1 .bool y])) (ob := (True ∧ True)) (ret58v == (decide ((b.getD ((k % ((b.length : Int) - (1 : Int)))).toNat (0 : Int)) = (b.getD (((k % ((b.length : Int) - (1 : Int))) + (1 : Int))).toNat (0 : Int))))) (by kernel_rfl) ⟨trivial, trivial⟩ h

end Dec
